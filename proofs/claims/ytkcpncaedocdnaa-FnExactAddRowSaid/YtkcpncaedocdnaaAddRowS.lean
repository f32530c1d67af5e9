/-
  A row is put behind all others: the reference's walk.
-/
import Derived.Test.YtkcpncaedocdnaaAddRow
import Derived.Deep.CutRange
namespace Go.Proofs.Ytkcpncaedocdnaa
open Go.RowKit

noncomputable def fitR (r : RowsD) (x : List Nat) : Bool := validR r && ((x.length : Int) == r.vars && allFin x)

set_option maxHeartbeats 4000000 in
set_option maxRecDepth 4000 in
theorem l02Fit_any (bb : Nat) (v0 v1 v2 v3 : Value) (r : RowsD) (fv : Value) (x : List Nat) (w : World) (hk : Blk w bb 49 #[v0, v1, v2, v3]) (h : RdR w (.agg #[v0, v1, v2, v3]) r) (hx : RdF w fv x) :
    Calls Try.prog 92 #[.pointer (some ⟨bb, 0, none⟩), fv] w fun e w' => e = .returned (.bool (fitR r x)) ∧ ∃ m, w' = w.drewN m := by
  obtain ⟨fa, fc, rfl⟩ := hx.shape
  obtain ⟨a1, c1, a2, c2, a3, c3, e⟩ := h.shape
  simp only [Value.agg.injEq, Array.mk.injEq, List.cons.injEq, and_true] at e
  obtain ⟨rfl, rfl, rfl, rfl⟩ := e
  have hd0 := hk.cell 0 rfl
  have lx := hx.len
  obtain ⟨OK, hOK⟩ : ∃ OK : Bool, OK = fitR r x := ⟨_, rfl⟩
  rw [← hOK]
  have HOK := Lib.hid hOK
  obtain ⟨n0, hn0⟩ : ∃ n0, n0 = r.vars := ⟨_, rfl⟩
  rw [← hn0] at hd0
  have HN := Lib.hid hn0
  have HP := Lib.hid h
  have HK := Lib.hid hk
  have HX := Lib.hid hx
  clear h hk hx hOK hn0
  by_cases hv : validR r = true
  case neg =>
    rw [Bool.not_eq_true] at hv
    have HV := Lib.hid hv
    clear hv
    go_enter Try.func92, Try.ntmps92
    go_wp2_with (go_at_call 86; refine (l02Is_any bb _ _ _ _ r _ HK.out HP.out).mono ?_; rintro e w1 ⟨rfl, m, rfl⟩; rw [HV.out])
    go_ret
    exact ⟨by rw [HOK.out, fitR, HV.out]; rfl, _, rfl⟩
  have HV := Lib.hid hv
  clear hv
  by_cases hn : ((x.length : Int) == n0) = true
  case neg =>
    rw [Bool.not_eq_true] at hn
    go_enter Try.func92, Try.ntmps92
    go_wp2_with (go_at_call 86; refine (l02Is_any bb _ _ _ _ r _ HK.out HP.out).mono ?_; rintro e w1 ⟨rfl, m, rfl⟩; rw [HV.out])
    go_ret
    exact ⟨by rw [HOK.out, fitR, HV.out, ← HN.out, hn]; rfl, _, rfl⟩
  go_enter Try.func92, Try.ntmps92
  go_wp2_with (first
    | (go_at_call 86; refine (l02Is_any bb _ _ _ _ r _ HK.out HP.out).mono ?_; rintro e w1 ⟨rfl, m, rfl⟩; rw [HV.out])
    | (go_at_call 138; refine (l02Finite_qs _ x w m HX.out).mono ?_; rintro e w2 ⟨rfl, m2, rfl⟩))
  go_ret
  exact ⟨by rw [HOK.out, fitR, HV.out, ← HN.out, hn]; rfl, _, rfl⟩

theorem fit_no {r : RowsD} {x : List Nat} {b : Nat} (h : fitR r x = false) : addOk r x b = false := by
  unfold fitR at h
  unfold addOk
  cases hv : validR r
  · rfl
  rw [hv, Bool.true_and] at h
  rw [Bool.true_and]
  cases hn : ((x.length : Int) == r.vars)
  · rfl
  rw [hn, Bool.true_and] at h
  rw [Bool.true_and]
  refine validR_false (fun hh => ?_)
  have h2 := hh.fn
  have h3 : allFin (r.nums ++ x) = true := h2
  have h4 : allFin x = true := by
    simp only [allFin, List.all_append, Bool.and_eq_true] at h3 ⊢
    exact h3.2
  rw [h4] at h
  cases h
theorem fit_yes {r : RowsD} {x : List Nat} {b : Nat} (h : fitR r x = true) : ValR r ∧ (x.length : Int) = r.vars ∧ addOk r x b = validR (addRw r x b) := by
  unfold fitR at h
  simp only [Bool.and_eq_true, beq_iff_eq] at h
  refine ⟨validR_iff.1 h.1, h.2.1, ?_⟩
  unfold addOk
  rw [h.1, h.2.1]; simp

set_option maxHeartbeats 4000000 in
set_option maxRecDepth 4000 in
theorem addRowS_any (v : Value) (r : RowsD) (fv : Value) (x : List Nat) (bd : Nat) (w : World) (h : RdR w v r) (hx : RdF w fv x) :
    Calls Try.prog 42 #[v, fv, .float .f32 bd] w fun e w' => ∃ v', e = .returned (.tuple #[v', .bool (addOk r x bd)]) ∧ OwnR w.heap.size w'.heap.size w' v' (addV r x bd) ∧ Below w.heap.size w w' := by
  obtain ⟨a1, c1, a2, c2, a3, c3, rfl⟩ := h.shape
  obtain ⟨fa, fc, rfl⟩ := hx.shape
  have lx := hx.len
  obtain ⟨n0, x1, x2, x3⟩ := r
  simp only at h ⊢
  obtain ⟨OK, hOK⟩ : ∃ OK : Bool, OK = addOk ⟨n0, x1, x2, x3⟩ x bd := ⟨_, rfl⟩
  obtain ⟨AV, hAV⟩ : ∃ AV : RowsD, AV = addV ⟨n0, x1, x2, x3⟩ x bd := ⟨_, rfl⟩
  rw [← hOK, ← hAV]
  have HP := Lib.hid h
  have HX := Lib.hid hx
  have LX := Lib.hid lx
  have HOK := Lib.hid hOK
  have HAV := Lib.hid hAV
  clear h hx lx hOK hAV
  obtain ⟨T, hT⟩ : ∃ T : Bool, T = fitR ⟨n0, x1, x2, x3⟩ x := ⟨_, rfl⟩
  have HT := Lib.hid hT
  clear hT
  go_enter Try.func42, Try.ntmps42
  go_upto_region 1 with fail
  refine wp_at fun W hW => ?_
  have HB := Lib.hid (show Below w.heap.size w W by subst hW; (repeat' first | exact Below.refl _ _ | assumption | refine Below.alloc ?_ ?_ _ | refine Below.setCell ?_ ?_ _ | refine Below.drew ?_ | (simp; done) | (simp; omega)))
  have HK := Lib.hid (show Blk W w.heap.size 49 #[.int .i64 n0, .slice a1 x1.length c1, .slice a2 x2.length c2, .slice a3 x3.length c3] by subst hW; exact (Blk.new _ _ _).alloc _)
  have HL := Lib.hid (show Blk W (w.heap.size + 1) 49 #[.int .i64 0, .slice none 0 0, .slice none 0 0, .slice none 0 0] by subst hW; exact Blk.newB _ _ _ _ (by simp))
  clear hW
  have hl1 := HL.out.lt
  have HPW := Lib.hid (HP.out.up HB.out (Nat.le_refl _))
  have HXW := Lib.hid (HX.out.up HB.out (Nat.le_refl _))
  go_wp2_with fail
  refine (l02Fit_any w.heap.size _ _ _ _ ⟨n0, x1, x2, x3⟩ _ x _ HK.out HPW.out HXW.out).mono ?_
  rintro e wc ⟨rfl, hm⟩
  rw [← HT.out]
  have HBw := Lib.hid (show Below W.heap.size W wc by obtain ⟨m, rfl⟩ := hm; exact below_drewN (Below.refl _ _) _)
  clear hm
  have hsz := HBw.out.size
  have HLc := Lib.hid (HL.out.below HBw.out HL.out.lt)
  cases hT : T
  case false =>
      have HT1 := Lib.hid (HT.out.symm.trans hT)
      clear hT
      have e0 := HLc.out.cell 0 rfl
      have e1 := HLc.out.cell 1 rfl
      have e2 := HLc.out.cell 2 rfl
      have e3 := HLc.out.cell 3 rfl
      have f0 := HLc.out.free 0
      have f1 := HLc.out.free 1
      have f2 := HLc.out.free 2
      have f3 := HLc.out.free 3
      go_wp2_with fail
      refine bodyPost_ret (v := .tuple #[.agg #[.int .i64 0, .slice none 0 0, .slice none 0 0, .slice none 0 0], .bool false]) (by simp [results, Try.results42, go_sem, *]) rfl ?_
      have hok : addOk ⟨n0, x1, x2, x3⟩ x bd = false := fit_no HT1.out
      refine ⟨_, by rw [HOK.out, hok], ?_, ?_⟩
      · rw [HAV.out, addV, hok]; exact ownR_zero _ _ _
      · refine (HB.out.trans (HBw.out.mono HB.out.size)).trans (Kept.toBelow (S := (· = w.heap.size + 1)) ?_ (by omega) (by intro k h1 h2; omega))
        repeat' first | exact Kept.refl _ _ | refine Kept.setCell ?_ (.inr (by simp)) _
  case true =>
      have HT0 := Lib.hid (HT.out.symm.trans hT)
      clear hT
      have hkc := Lib.hid (HK.out.below HBw.out HK.out.lt)
      have HF := Lib.hid (fit_yes (r := ⟨n0, x1, x2, x3⟩) (x := x) (b := bd) HT0.out)
      have HPc := Lib.hid (HP.out.up (HB.out.trans (HBw.out.mono HB.out.size)) (Nat.le_refl _))
      have hbo := boundR HP.out HF.out.1
      simp only at hbo
      have HBO := Lib.hid hbo
      clear hbo
      go_upto_region 4 with (go_at_call 93; refine (l02Own_any w.heap.size _ _ _ _ ⟨n0, x1, x2, x3⟩ _ hkc.out HPc.out (by have := HBO.out; simp only [bulkR]; omega)).mono ?_; rintro e w1 ⟨v', rfl, ho, hb1⟩; obtain ⟨b1, k1, b2, k2, b3, k3, rfl⟩ := ho.rd.shape; have HO := Lib.hid ho; have HB1 := Lib.hid hb1; have hs1 := hb1.size; clear ho hb1)
      refine wp_at fun W4 hW4 => ?_
      have HG := Lib.hid (show Blk W4 w1.heap.size 49 #[.int .i64 n0, .slice b1 x1.length k1, .slice b2 x2.length k2, .slice b3 x3.length k3] by subst hW4; exact Blk.newB _ _ _ _ (by simp))
      have HO4 := Lib.hid (show OwnR wc.heap.size w1.heap.size W4 (.agg #[.int .i64 n0, .slice b1 x1.length k1, .slice b2 x2.length k2, .slice b3 x3.length k3]) ⟨n0, x1, x2, x3⟩ by
        subst hW4; exact HO.out.up ((Below.refl _ _).alloc (Nat.le_refl _) _) (Nat.le_refl _))
      have HB4 := Lib.hid (show Below wc.heap.size wc W4 by subst hW4; exact HB1.out.alloc HB1.out.size _)
      have hs4 : w1.heap.size < W4.heap.size := HG.out.lt
      clear hW4
      have g0 := HG.out.cell 0 rfl
      have g1 := HG.out.cell 1 rfl
      have g2 := HG.out.cell 2 rfl
      have g3 := HG.out.cell 3 rfl
      have HXc := Lib.hid (HX.out.up (HB.out.trans ((HBw.out.trans (HB4.out.mono hsz)).mono HB.out.size)) (Nat.le_refl _))
      have hlen1 : x1.length + x.length ≤ 17592186044416 := by
        have h1 := HBO.out
        have h2 := HF.out.2.1
        have h3 := HF.out.1.v8
        simp only at h2 h3
        omega
      go_upto_region 5 with (at_builtin; refine app_fltsL rfl _ _ rfl wc.heap.size (.slice b1 x1.length k1) x1.length x1 rfl HO4.out.parts.1.1 _ x rfl HXc.out (x1.length + x.length) (x1 ++ x) rfl rfl hlen1 HB4.out.size ?_; intro y1 e1 w5 hown5 hbl5 hg5 hl5; have HG5 := Lib.hid (blk_grown HG.out hg5 (HG.out.not_owned HO4.out.parts.1.1 (by decide))); have q1 := HG5.out.cell 1 rfl; have q2 := HG5.out.free 1)
      refine wp_at fun W6 hW6 => ?_
      have HO6' := ownR_set (ownR_app1 HO4.out (by omega) hg5 hown5 hl5) HG5.out 1 (.slice y1 (x1.length + x.length) e1)
      have HO6 := Lib.hid (show OwnR wc.heap.size W6.heap.size W6 (.agg #[.int .i64 n0, .slice y1 (x1.length + x.length) e1, .slice b2 x2.length k2, .slice b3 x3.length k3]) ⟨n0, x1 ++ x, x2, x3⟩ by subst hW6; simpa using HO6')
      have HG6 := Lib.hid (show Blk W6 w1.heap.size 49 #[.int .i64 n0, .slice y1 (x1.length + x.length) e1, .slice b2 x2.length k2, .slice b3 x3.length k3] by subst hW6; simpa using HG5.out.set 1 (.slice y1 (x1.length + x.length) e1))
      have HB6 := Lib.hid (show Below wc.heap.size wc W6 by subst hW6; exact (HB4.out.trans hbl5).setCell hs1 _)
      clear hW6 HO6' hown5 hbl5 hg5 hl5 q1 q2 HG5 g0 g1 g2 g3 HG
      have g0 := HG6.out.cell 0 rfl
      have g1 := HG6.out.cell 1 rfl
      have g2 := HG6.out.cell 2 rfl
      have g3 := HG6.out.cell 3 rfl
      have hgl := HG6.out.lt
      have hlen2 : x2.length + 1 ≤ 17592186044416 := by have h1 := HBO.out; omega
      go_upto_region 6 with (at_builtin; refine app_fltsL rfl _ _ rfl wc.heap.size (.slice b2 x2.length k2) x2.length x2 rfl (HO6.out.up ((Below.refl W6.heap.size W6).alloc (Nat.le_refl _) _) (Nat.le_refl _)).parts.2.1.1 _ [bd] rfl (slcF_one W6 bd) (x2.length + 1) (x2 ++ [bd]) rfl rfl hlen2 (by have := HB6.out.size; simp; omega) ?_; intro y2 e2 w7 hown7 hbl7 hg7 hl7; have HG7 := Lib.hid (blk_grown (HG6.out.alloc (.cells #[.float .f32 bd] 59)) hg7 ((HG6.out.alloc (.cells #[.float .f32 bd] 59)).not_owned (HO6.out.up ((Below.refl W6.heap.size W6).alloc (Nat.le_refl _) _) (Nat.le_refl _)).parts.2.1.1 (by decide))); have q1 := HG7.out.cell 2 rfl; have q2 := HG7.out.free 2)
      refine wp_at fun W8 hW8 => ?_
      have HO8' := ownR_set (ownR_app2 (HO6.out.up ((Below.refl W6.heap.size W6).alloc (Nat.le_refl _) (.cells #[.float .f32 bd] 59)) (Nat.le_refl _)) (by simp) hg7 hown7 hl7) HG7.out 2 (.slice y2 (x2.length + 1) e2)
      have HO8 := Lib.hid (show OwnR wc.heap.size W8.heap.size W8 (.agg #[.int .i64 n0, .slice y1 (x1.length + x.length) e1, .slice y2 (x2.length + 1) e2, .slice b3 x3.length k3]) (addRw ⟨n0, x1, x2, x3⟩ x bd) by subst hW8; simpa [addRw] using HO8')
      have HG8 := Lib.hid (show Blk W8 w1.heap.size 49 #[.int .i64 n0, .slice y1 (x1.length + x.length) e1, .slice y2 (x2.length + 1) e2, .slice b3 x3.length k3] by subst hW8; simpa using HG7.out.set 2 (.slice y2 (x2.length + 1) e2))
      have HB8 := Lib.hid (show Below wc.heap.size wc W8 by subst hW8; exact ((HB6.out.alloc HB6.out.size _).trans hbl7).setCell hs1 _)
      clear hW8 HO8' hown7 hbl7 hg7 hl7 q1 q2 HG7 g0 g1 g2 g3 HG6
      have g0 := HG8.out.cell 0 rfl
      have g1 := HG8.out.cell 1 rfl
      have g2 := HG8.out.cell 2 rfl
      have g3 := HG8.out.cell 3 rfl
      go_wp2_with fail
      refine (l02Give_any _ (addRw ⟨n0, x1, x2, x3⟩ x bd) W8 HO8.out.rd).mono ?_
      rintro e w9 ⟨rfl, hb9⟩
      have HB9 := Lib.hid (HB8.out.trans (hb9.mono HB8.out.size))
      have HO9 := Lib.hid (HO8.out.up hb9 (Nat.le_refl _))
      have hs9 := hb9.size
      have hs98 := HB9.out.size
      clear hb9 g0 g1 g2 g3
      have hlc := HLc.out.below HB9.out HLc.out.lt
      have e0 := hlc.cell 0 rfl
      have e1' := hlc.cell 1 rfl
      have e2' := hlc.cell 2 rfl
      have e3 := hlc.cell 3 rfl
      have f0 := hlc.free 0
      have f1 := hlc.free 1
      have f2 := hlc.free 2
      have f3 := hlc.free 3
      clear hlc
      have FIN := Lib.hid (show ∀ Wf, Kept (· = w.heap.size + 1) w9 Wf → Below w.heap.size w Wf from fun Wf hk => (HB.out.trans ((HBw.out.trans (HB9.out.mono hsz)).mono HB.out.size)).trans (hk.toBelow (by have := HB.out.size; omega) (by intro k h1 h2; omega)))
      by_cases hv : validR (addRw ⟨n0, x1, x2, x3⟩ x bd) = true
      · have HV := Lib.hid hv
        rw [hv]
        clear hv
        go_wp2_with fail
        refine bodyPost_ret (v := .tuple #[.agg #[.int .i64 n0, .slice y1 (x1.length + x.length) e1, .slice y2 (x2.length + 1) e2, .slice b3 x3.length k3], .bool true]) (by simp [results, Try.results42, go_sem, *]) rfl ?_
        have hok : addOk ⟨n0, x1, x2, x3⟩ x bd = true := HF.out.2.2.trans HV.out
        suffices hF : ∀ Wf, Kept (· = w.heap.size + 1) w9 Wf → ∃ v', Ending.returned (.tuple #[.agg #[.int .i64 n0, .slice y1 (x1.length + x.length) e1, .slice y2 (x2.length + 1) e2, .slice b3 x3.length k3], .bool true]) = .returned (.tuple #[v', .bool OK]) ∧ OwnR w.heap.size Wf.heap.size Wf v' AV ∧ Below w.heap.size w Wf by
          refine hF _ ?_
          repeat' first | exact Kept.refl _ _ | refine Kept.setCell ?_ (.inr (by simp)) _
        intro Wf hK
        refine ⟨_, by rw [HOK.out, hok], ?_, FIN.out _ hK⟩
        rw [HAV.out, addV, if_pos hok]
        have hz := hK.size
        have hbz := HB.out.size
        exact (HO9.out.kept hK (by intro b h1 h2 h3; omega)).wide (by omega) (by omega)
      · rw [Bool.not_eq_true] at hv
        have HV := Lib.hid hv
        rw [hv]
        clear hv
        go_wp2_with fail
        refine bodyPost_ret (v := .tuple #[.agg #[.int .i64 0, .slice none 0 0, .slice none 0 0, .slice none 0 0], .bool false]) (by simp [results, Try.results42, go_sem, *]) rfl ?_
        have hok : addOk ⟨n0, x1, x2, x3⟩ x bd = false := HF.out.2.2.trans HV.out
        refine ⟨_, by rw [HOK.out, hok], by rw [HAV.out, addV, hok]; exact ownR_zero _ _ _, FIN.out _ ?_⟩
        repeat' first | exact Kept.refl _ _ | refine Kept.setCell ?_ (.inr (by simp)) _

end Go.Proofs.Ytkcpncaedocdnaa
