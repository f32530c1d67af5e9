/-
  FnDiffers: the law's walk.
-/
import Derived.Test.YtnhamdkpeefioaaDiffFacts
import Derived.Test.YtnhamdkpeefioaaDomDraw
import Derived.Test.YtnhamdkpeefioaaNarrowS
namespace Go.Proofs.Ytnhamdkpeefioaa
open Go.RowKit

theorem app_lists {w : World} {ops : Array Oper} {rest : List Oper} {o : Oper} {a : Act} {Q : Exit → Act → World → Prop} (hgd : o.guard = none) (s x : Operand)
    (ho : o.op = .call { callee := .builtin .append, args := #[s, x], argTypes := #[22, 22] })
    (base : Nat) (v : Value) (n : Nat) (vs : List Value) (hs : a.eval s = v) (hown : w.ownsRow base 32 1 v n vs)
    (sv : Value) (us : List Value) (hx : a.eval x = sv) (hsv : Slc w sv us) (hone : ∀ u ∈ us, u.oneCell' = true) (m : Nat) (hm : m = n + us.length) (hlen : m ≤ 1048576) (hbase : base ≤ w.heap.size)
    (h : ∀ a' cap' w', w'.ownsRow base 32 1 (.slice a' m cap') m (vs ++ us) → Below base w w' → w.grownBy w' v.ownBlock → wpList Try.prog ops Q rest (a.put o.dst (.slice a' m cap')) w') :
    wpList Try.prog ops Q (o :: rest) a w := by
  obtain ⟨i0, hi, hz0, hz1, hz2⟩ := info_parts Try.infoInts
  subst hm
  refine wpList_append_slc hgd s x 22 ho base 32 i0 (.slice none 0 0) 24 Try.underlying22 hi hz0 hz1 hz2 rfl v n vs hs hown sv us hx hsv hone (by simp [maxLen]; omega) (by omega) hbase ?_
  intro v' w' h1 h2 h3
  obtain ⟨a', cap', rfl⟩ := owns_shape h1
  exact h a' cap' w' h1 (below_grown hown hbase h2) h2

theorem b10Has_is (v : Value) (l : List Int) (x : Int) (b : Bool) (w : World) (h : RdI w v l) (hb : hasB l x = b) :
    Calls Try.prog 31 #[v, .int .i64 x] w fun e w' => e = .returned (.bool b) ∧ w = w' := by
  subst hb; exact b10Has_any v l x w h

set_option maxHeartbeats 8000000 in
set_option maxRecDepth 100000 in
theorem lawDiffers_any (w : World) (v0 : Value) (b0 : List Int) (r0 : RdB w v0 b0) (y0 : WfB b0) (v1 : Value) (b1 : List Int) (r1 : RdB w v1 b1) (y1 : WfB b1) :
    Calls Try.prog 4 #[v0, v1] w fun e w' => e = .returned (.bool true) ∧ Below w.heap.size w w' := by
  have R0 := Lib.hid r0
  have R1 := Lib.hid r1
  have Y0 := Lib.hid y0
  clear r0 r1 y0 y1
  by_cases hL : isLong b0 b1 = true
  · go_enter Try.func4, Try.ntmps4
    go_wp2_with (go_at_call 21; refine (b10Long_any _ _ b0 b1 _ R0.out R1.out).mono ?_; rintro e w' ⟨rfl, rfl⟩; rw [hL])
    go_ret
    exact ⟨rfl, Below.refl _ _⟩
  rw [Bool.not_eq_true] at hL
  have HL := Lib.hid hL
  clear hL
  go_enter Try.func4, Try.ntmps4
  go_upto_region 3 with (go_at_call 21; refine (b10Long_any _ _ b0 b1 _ R0.out R1.out).mono ?_; rintro e w' ⟨rfl, rfl⟩; rw [HL.out])
  go_wp2_with fail
  refine (B10Domains_any _ b0 w R0.out Y0.out).mono ?_
  rintro e w1 ⟨D, vd, hD, rfl, ho, hb1⟩
  obtain ⟨da, dc, rfl⟩ := ho.rd.shape
  have HD := Lib.hid hD
  have HV := Lib.hid (validD_iff.2 hD)
  have HR1 := Lib.hid ho.rd
  have HB1 := Lib.hid hb1
  have hD6 := hD.2.1
  have hD1 := hD.1
  have hAl := allC_len hD
  have HCD := Lib.hid (cd_val hD)
  obtain ⟨A, hA⟩ : ∃ A, A = allC D := ⟨_, rfl⟩
  rw [← hA] at hAl HCD
  have HA := Lib.hid hA
  clear hD ho hb1 hA
  -- the five calls
  go_wp2_with fail
  refine (implFirstD_any _ D w1 HR1.out).mono ?_
  rintro e w2 ⟨vf, rfl, ho, hb⟩
  obtain ⟨fa, fc, rfl⟩ := ho.rd.shape
  have HF2 := Lib.hid ho.rd
  have HR2 := Lib.hid (HR1.out.up hb (Nat.le_refl _))
  have HB2 := Lib.hid (HB1.out.trans (hb.mono HB1.out.size))
  clear ho hb HR1 HB1
  go_wp2_with fail
  refine (implCountD_any _ D w2 HR2.out).mono ?_
  rintro e w3 ⟨rfl, hb⟩
  rw [HV.out, HCD.out]
  have HF3 := Lib.hid (HF2.out.up hb (Nat.le_refl _))
  have HR3 := Lib.hid (HR2.out.up hb (Nat.le_refl _))
  have HB3 := Lib.hid (HB2.out.trans (hb.mono HB2.out.size))
  clear hb HR2 HB2 HF2
  go_wp2_with fail
  refine (implNarrow_any _ D w3 HR3.out).mono ?_
  rintro e w4 ⟨vn, rfl, ho, hb⟩
  obtain ⟨na, nc, rfl⟩ := ho.rd.shape
  have HN4 := Lib.hid ho.rd
  have HF4 := Lib.hid (HF3.out.up hb (Nat.le_refl _))
  have HR4 := Lib.hid (HR3.out.up hb (Nat.le_refl _))
  have HB4 := Lib.hid (HB3.out.trans (hb.mono HB3.out.size))
  clear ho hb HR3 HB3 HF3
  go_wp2_with fail
  refine (implTight_any _ D w4 HR4.out).mono ?_
  rintro e w5 ⟨vt, rfl, ho, hb⟩
  rw [HV.out]
  obtain ⟨ta, tc, rfl⟩ := ho.rd.shape
  have HT5 := Lib.hid ho.rd
  have HN5 := Lib.hid (HN4.out.up hb (Nat.le_refl _))
  have HF5 := Lib.hid (HF4.out.up hb (Nat.le_refl _))
  have HR5 := Lib.hid (HR4.out.up hb (Nat.le_refl _))
  have HB5 := Lib.hid (HB4.out.trans (hb.mono HB4.out.size))
  clear ho hb HR4 HB4 HF4 HN4
  go_wp2_with fail
  refine (specTight_any _ D w5 HR5.out).mono ?_
  rintro e w6 ⟨vu, rfl, ho, hb⟩
  rw [HV.out]
  obtain ⟨ua, uc, rfl⟩ := ho.rd.shape
  have HU6 := Lib.hid ho.rd
  have HT6 := Lib.hid (HT5.out.up hb (Nat.le_refl _))
  have HN6 := Lib.hid (HN5.out.up hb (Nat.le_refl _))
  have HF6 := Lib.hid (HF5.out.up hb (Nat.le_refl _))
  have HR6 := Lib.hid (HR5.out.up hb (Nat.le_refl _))
  have HB6 := Lib.hid (HB5.out.trans (hb.mono HB5.out.size))
  clear ho hb HR5 HB5 HF5 HN5 HT5
  as_aux_lemma =>
  obtain ⟨C, hC⟩ : ∃ C : Int, C = (A.length : Nat) := ⟨_, rfl⟩
  rw [← hC]
  have hC0 : 0 ≤ C := by omega
  have HC := Lib.hid hC
  clear hC
  by_cases hne : A = []
  · have hfn := none_facts (D := D) (by rw [← HA.out]; exact hne)
    have q1 : C ≤ 0 := by have := HC.out; rw [hne] at this; simpa using Int.le_of_eq this
    have q2 : decide (0 < C) = false := by simp; omega
    have q3 : decide (C < 0) = false := by simp; omega
    rw [hfn.1, hfn.2]
    clear hfn hne
    go_upto_region 9 with fail
    as_aux_lemma =>
    go_wp2_with fail
    refine (implAreDomains_o _ D w6 HR6.out).mono ?_
    rintro e w7 ⟨rfl, hb7⟩
    rw [HV.out]
    have HB7 := Lib.hid (HB6.out.trans (hb7.mono HB6.out.size))
    have HT7 := Lib.hid (HT6.out.up hb7 (Nat.le_refl _))
    have HU7 := Lib.hid (HU6.out.up hb7 (Nat.le_refl _))
    clear hb7
    go_wp2_with fail
    refine (b10Ints_any _ _ _ _ _ _ (tsL D) (tsL D) _ rfl rfl HT7.out HU7.out).mono ?_
    rintro e w8 ⟨rfl, n, rfl⟩
    have hee : decide (tsL D = tsL D) = true := by simp
    rw [hee]
    clear hee
    go_wp2_with fail
    go_ret
    exact ⟨rfl, below_drewN HB7.out _⟩
  have hAne : allC D ≠ [] := by rw [← HA.out]; exact hne
  have q1 : 0 < C := by
    have h1 : A.length ≠ 0 := fun h => hne (List.length_eq_zero_iff.1 h)
    have := HC.out; omega
  have q2 : decide (0 < C) = true := by simp; omega
  have q3 : decide (C < 0) = false := by simp; omega
  have hff := first_facts HD.out hAne
  have hnok := nrOk_yes HV.out hAne
  have hnl := nrL_yes hnok
  have hnv := val_narrow HD.out hAne
  have htt := tight_facts HD.out
  rw [hff.1, hnok]
  have FF := Lib.hid hff.2
  have FL := Lib.hid hff.2.1
  have NL := Lib.hid hnl
  have NV := Lib.hid hnv
  have TT := Lib.hid htt
  have HAN := Lib.hid hAne
  clear hff hnok hnl hnv htt hne hAne
  go_upto_region 9 with fail
  as_aux_lemma =>
  go_wp2_with fail
  refine (implAreDomains_o _ D w6 HR6.out).mono ?_
  rintro e w7 ⟨rfl, hb7⟩
  rw [HV.out]
  have HB7 := Lib.hid (HB6.out.trans (hb7.mono HB6.out.size))
  have HT7 := Lib.hid (HT6.out.up hb7 (Nat.le_refl _))
  have HU7 := Lib.hid (HU6.out.up hb7 (Nat.le_refl _))
  have HF7 := Lib.hid (HF6.out.up hb7 (Nat.le_refl _))
  have HN7 := Lib.hid (HN6.out.up hb7 (Nat.le_refl _))
  have HR7 := Lib.hid (HR6.out.up hb7 (Nat.le_refl _))
  clear hb7 HT6 HU6 HF6 HN6 HR6 HB6
  go_wp2_with fail
  refine (b10Ints_any _ _ _ _ _ _ (tsL D) (tsL D) _ rfl rfl HT7.out HU7.out).mono ?_
  rintro e w8 ⟨rfl, n, rfl⟩
  have hee : decide (tsL D = tsL D) = true := by simp
  rw [hee]
  clear hee
  go_wp2_with fail
  obtain ⟨w8, hw8⟩ : ∃ w8, w8 = w7.drewN n := ⟨_, rfl⟩
  have HB8 := Lib.hid (show Below w.heap.size w w8 by rw [hw8]; exact below_drewN HB7.out _)
  have HT8 := Lib.hid (show RdI w8 _ _ by rw [hw8]; exact HT7.out.drewN n)
  have HF8 := Lib.hid (show RdI w8 _ _ by rw [hw8]; exact HF7.out.drewN n)
  have HN8 := Lib.hid (show RdL w8 _ _ by rw [hw8]; exact HN7.out.up (below_drewN (Below.refl _ _) n) (Nat.le_refl _))
  have HR8 := Lib.hid (show RdL w8 _ _ by rw [hw8]; exact HR7.out.up (below_drewN (Below.refl _ _) n) (Nat.le_refl _))
  rw [← hw8]
  clear hw8 HT7 HU7 HF7 HN7 HR7 HB7
  refine (specFirstD_any _ D w8 HR8.out).mono ?_
  rintro e w9 ⟨vg, rfl, ho, hb⟩
  have hfo := (first_facts HD.out HAN.out).1
  rw [hfo]
  clear hfo
  obtain ⟨ga, gc, rfl⟩ := ho.rd.shape
  have HG9 := Lib.hid ho.rd
  have HT9 := Lib.hid (HT8.out.up hb (Nat.le_refl _))
  have HF9 := Lib.hid (HF8.out.up hb (Nat.le_refl _))
  have HN9 := Lib.hid (HN8.out.up hb (Nat.le_refl _))
  have HR9 := Lib.hid (HR8.out.up hb (Nat.le_refl _))
  have HB9 := Lib.hid (HB8.out.trans (hb.mono HB8.out.size))
  clear ho hb HR8 HB8 HF8 HN8 HT8
  as_aux_lemma =>
  have t1 : (1 : Int) ≤ ((tsL D).length : Int) := by have := TT.out.1; omega
  have t1n : decide ((tsL D).length < 1) = false := decide_eq_false (by have := TT.out.1; omega)
  obtain ⟨tb, tq, rfl, _, hct⟩ := HT9.out.at (i := 0) (by have := TT.out.1; omega)
  rw [TT.out.2, Nat.add_zero] at hct
  have hnl1 : (nrL D).length = D.length := by rw [NL.out, nrAll_len']
  have hnl2 : (((nrL D).length : Int) != (D.length : Int)) = false := by rw [hnl1]; simp
  have HNL1 := Lib.hid hnl1
  clear hnl1
  go_wp2_with fail
  refine (b10Ints_any _ _ _ _ _ _ (fdL D) (fdL D) _ rfl rfl HF9.out HG9.out).mono ?_
  rintro e w10 ⟨rfl, n2, rfl⟩
  have hee : decide (fdL D = fdL D) = true := by simp
  rw [hee]
  clear hee
  go_wp2_with fail
  obtain ⟨w10, hw10⟩ : ∃ w10, w10 = w9.drewN n2 := ⟨_, rfl⟩
  have HB10 := Lib.hid (show Below w.heap.size w w10 by rw [hw10]; exact below_drewN HB9.out _)
  have HF10 := Lib.hid (show RdI w10 _ _ by rw [hw10]; exact HF9.out.drewN n2)
  have HN10 := Lib.hid (show RdL w10 _ _ by rw [hw10]; exact HN9.out.up (below_drewN (Below.refl _ _) n2) (Nat.le_refl _))
  have HR10 := Lib.hid (show RdL w10 _ _ by rw [hw10]; exact HR9.out.up (below_drewN (Below.refl _ _) n2) (Nat.le_refl _))
  rw [← hw10]
  clear hw10 HT9 HG9 HF9 HN9 HR9 HB9 hct t1 t1n hnl2
  refine (implCountD_any _ (nrL D) w10 HN10.out).mono ?_
  rintro e w11 ⟨rfl, hb⟩
  have hcn : cdN (nrL D) = C := by rw [NL.out, cd_val NV.out, allC_narrow, HC.out, HA.out]
  have hvn : validD (nrL D) = true := by rw [NL.out]; exact validD_iff.2 NV.out
  rw [hcn, hvn]
  have HF11 := Lib.hid (HF10.out.up hb (Nat.le_refl _))
  have HN11 := Lib.hid (HN10.out.up hb (Nat.le_refl _))
  have HR11 := Lib.hid (HR10.out.up hb (Nat.le_refl _))
  have HB11 := Lib.hid (HB10.out.trans (hb.mono HB10.out.size))
  clear hb hcn hvn HF10 HN10 HR10 HB10
  as_aux_lemma =>
  go_wp2_with fail
  go_loopw [135] (fun ii wr => ∃ i : Nat, ii = .int .i64 i ∧ i ≤ D.length ∧ Below w11.heap.size w11 wr) (fun ii _ => D.length - (intOf ii).toNat)
  case atStart => exact ⟨0, rfl, Nat.zero_le _, Below.refl _ _⟩
  case round =>
  obtain ⟨i, rfl, hi, hbl⟩ := hrel
  have HBL := Lib.hid hbl
  clear hbl
  by_cases hlt : i < D.length
  case neg =>
    obtain rfl : i = D.length := by omega
    go_wp2_with fail
    go_ret
    exact ⟨rfl, HB11.out.trans (HBL.out.mono HB11.out.size)⟩
  obtain ⟨wo, rfl⟩ : ∃ wo : World, wo = wr := ⟨_, rfl⟩
  have HFo := Lib.hid (HF11.out.up HBL.out (Nat.le_refl _))
  have HNo := Lib.hid (HN11.out.up HBL.out (Nat.le_refl _))
  have HRo := Lib.hid (HR11.out.up HBL.out (Nat.le_refl _))
  have hd8 := (HD.out.2.2 i hlt).2.1
  have HSUM := Lib.hid (sum_facts HD.out hlt)
  have HSU := Lib.hid (fixSum_succ (allC D) i (D.getD i []))
  have HSL := Lib.hid (fixSum_le (allC D) i (D.getD i []))
  have HFX := Lib.hid (fun x hx => fixed_facts HD.out hlt (x := x) hx)
  have HFI := Lib.hid (FF.out.2 i hlt)
  obtain ⟨db, dof, u, hda, _, hc1, hu⟩ := HRo.out.at hlt
  subst hda
  obtain ⟨d, hd⟩ : ∃ d, d = D.getD i [] := ⟨_, rfl⟩
  rw [← hd] at hu hd8 HSUM HSU HSL HFX HFI
  obtain ⟨va, vc, rfl⟩ := hu.shape
  have HU := Lib.hid hu
  have HDD := Lib.hid hd
  have HC1 := Lib.hid hc1
  have ki : (i : Int) < (D.length : Int) := by omega
  clear hu hd
  as_aux_lemma =>
  go_wp2_with fail
  clear hc1
  go_loopw [143, 21] (fun kk ss wi => ∃ k : Nat, kk = .int .i64 k ∧ k ≤ d.length ∧ ss = .int .i64 (fixSum (allC D) i d k : Nat) ∧ Below wo.heap.size wo wi) (fun kk _ _ => d.length - (intOf kk).toNat)
  case atStart => exact ⟨0, rfl, Nat.zero_le _, rfl, Below.refl _ _⟩
  case round =>
  obtain ⟨k, rfl, hk, rfl, hbl⟩ := hrel
  have HBI := Lib.hid hbl
  clear hbl
  have hc1 := held_of HBI.out HC1.out (Nat.le_refl _)
  by_cases hkl : k < d.length
  case neg =>
    obtain rfl : k = d.length := by omega
    rw [HSUM.out, ← HA.out, ← HC.out]
    obtain ⟨fb, fo, rfl, _, hcf⟩ := (HFo.out.up HBI.out (Nat.le_refl _)).at (i := i) (by rw [FL.out]; exact hlt)
    obtain ⟨y, hy⟩ : ∃ y, y = (fdL D).getD i 0 := ⟨_, rfl⟩
    have hyb : hasB d y = true := by rw [hy]; exact HFI.out
    rw [← hy] at hcf
    have HYB := Lib.hid hyb
    have kf : (i : Int) < ((fdL D).length : Int) := by have := FL.out; omega
    have hcc : (C != C) = false := by simp
    have HUr := Lib.hid (HU.out.up HBI.out (Nat.le_refl _))
    clear hy hyb
    as_aux_lemma =>
    go_wp2_with fail
    go_quiet ((go_at_call 31; exact quiet_same (b10Has_is _ d y true _ (HUr.out.drewN _) HYB.out)))
    go_wp2_with fail
    go_roundw
    case rel => exact ⟨i + 1, by go_num, by omega, below_drewN (HBL.out.trans (HBI.out.mono HBL.out.size)) _⟩
    case measure => simp [intOf]; omega
  have hRr := HRo.out.up HBI.out (Nat.le_refl _)
  obtain ⟨vs, hsl, heach⟩ := hRr
  have hvl : vs.length = D.length := heach.1
  have hone : ∀ u ∈ vs, u.oneCell' = true := by
    intro u hu
    obtain ⟨j, hj, rfl⟩ := List.getElem_of_mem hu
    obtain ⟨a, c, e⟩ := (heach.2 j vs[j] (D[j]'(by omega)) (by simp) (by simp [show j < D.length by omega])).shape
    rw [e]; rfl
  obtain ⟨eb, eo, rfl, _, hcx⟩ := (HU.out.up HBI.out (Nat.le_refl _)).at (i := k) hkl
  have hxm : d.getD k 0 ∈ d := getD_mem hkl
  obtain ⟨F, hF1, hF2, hF3, hF4, hF5⟩ := HFX.out _ hxm
  have HSK := Lib.hid (HSU.out k hkl)
  have hsl8 := HSL.out k
  obtain ⟨x, hx⟩ : ∃ x, x = d.getD k 0 := ⟨_, rfl⟩
  rw [← hx] at hcx hF1 hF2 hF3 hF5 HSK
  rw [← hF3] at HSK
  obtain ⟨S, hS⟩ : ∃ S, S = fixSum (allC D) i d k := ⟨_, rfl⟩
  rw [← hS] at hsl8 HSK ⊢
  have hS2 : S ≤ 2097152 := by
    have h1 : k * (allC D).length ≤ 8 * 262144 := Nat.mul_le_mul (by omega) (by rw [← HA.out]; exact hAl)
    omega
  have HSl := Lib.hid hsl
  have HE := Lib.hid heach
  have HVL := Lib.hid hvl
  have HON := Lib.hid hone
  have F1 := Lib.hid hF1
  have F2 := Lib.hid hF2
  have F5 := Lib.hid hF5
  have HXK := Lib.hid hcx
  have HCK := Lib.hid hc1
  clear hsl heach hvl hone hF1 hF2 hF3 hF5 hx hxm hS hsl8 hcx hc1
  have kk : (k : Int) < (d.length : Int) := by omega
  as_aux_lemma =>
  have hal := (Below.refl wr.heap.size wr).alloc (Nat.le_refl _) (.cells #[] 32)
  have HSa := Lib.hid (HSl.out.below hal (Nat.le_refl _))
  have HOe := Lib.hid (show (wr.alloc (.cells #[] 32)).ownsRow wr.heap.size 32 1 (.slice (some ⟨wr.heap.size, 0, none⟩) 0 0) 0 [] from World.ownsRow_lit (base := wr.heap.size) (e := 32) (size := 1) wr #[] 0 (Nat.le_refl _) (by simp [maxLen]) rfl)
  have HAL := Lib.hid hal
  have hDm : D.length ≤ 1048576 := by omega
  have hDe : D.length = 0 + vs.length := by rw [HVL.out]; omega
  have HDE := Lib.hid hDe
  clear hal hDe
  go_upto_region 27 with (at_builtin; refine app_lists rfl _ _ rfl wr.heap.size (.slice (some ⟨wr.heap.size, 0, none⟩) 0 0) 0 [] rfl HOe.out _ vs rfl HSa.out HON.out D.length HDE.out hDm (by simp) ?_; intro a' cap' w12 hown hbl hg)
  have hwlt : wr.heap.size < w12.heap.size := by have := hg.size; simp at this; omega
  have HB12 := Lib.hid (HAL.out.trans hbl)
  obtain ⟨g, rfl, hgz⟩ := owns_slice_some hown (by omega)
  rw [List.nil_append] at hown
  have hgl := (owns_lt hown (k := g) rfl).2
  have HO12 := Lib.hid hown
  have hq1 := hown.cellAt i (by omega)
  have hq2 := hown.frozenAt i
  have hvi : vs[i]? = some (vs[i]'(by rw [HVL.out]; exact hlt)) := List.getElem?_eq_getElem _
  rw [hvi] at hq1
  have hx12 := held_of HB12.out HXK.out (Nat.le_refl _)
  have hc12 := held_of HB12.out HCK.out (Nat.le_refl _)
  clear hown hbl hg hvi
  go_wp2_with fail
  refine Calls.at fun W hW => ?_
  have HBW := Lib.hid (show Below wr.heap.size wr W by subst hW; exact (HB12.out.setCell (p := ⟨g, i, none⟩) hgz _).alloc (by simp; omega) _)
  have HRF := Lib.hid (show RdL W (.slice (some ⟨g, 0, none⟩) D.length cap') (D.set i [x]) by
    have hst := ((HO12.out.stored i (.slice (some ⟨w12.heap.size, 0, none⟩) 1 1)).1).alloc (.cells #[.int .i64 x] 2)
    have hbw := HBW.out
    subst hW
    refine ⟨vs.set i (.slice (some ⟨w12.heap.size, 0, none⟩) 1 1), slc_of_owns hst, by simp [HVL.out], ?_⟩
    intro j u' zs h1 h2
    by_cases hji : i = j
    · subst hji
      simp [HVL.out, hlt] at h1 h2
      subst h1 h2
      exact slc_oneB _ x _ (by simp)
    · rw [List.getElem?_set_ne hji] at h1 h2
      exact (HE.out.2 j u' zs h1 h2).up hbw (Nat.le_refl _))
  clear hW hq1 hq2 hx12 hc12 HSa HOe HAL
  refine (specCountD_any _ (D.set i [x]) W HRF.out).mono ?_
  rintro e w14 ⟨rfl, hb14⟩
  rw [F1.out, F2.out]
  have hszW := HBW.out.size
  have HB14 := Lib.hid (HBW.out.trans (hb14.mono hszW))
  have hc14 := held_of HB14.out HCK.out (Nat.le_refl _)
  have hx14 := held_of HB14.out HXK.out (Nat.le_refl _)
  obtain ⟨nb, no, un, hna, _, hcn, hun⟩ := ((HNo.out.up HBI.out (Nat.le_refl _)).up HB14.out (Nat.le_refl _)).at (i := i) (by rw [HNL1.out]; exact hlt)
  subst hna
  rw [NL.out, nrAll_at hlt] at hun
  obtain ⟨ra, rc, rfl⟩ := hun.shape
  have HUN := Lib.hid hun
  have kn : (i : Int) < ((nrL D).length : Int) := by have := HNL1.out; omega
  have HBr := Lib.hid (HBI.out.trans (HB14.out.mono HBI.out.size))
  clear hb14 hun
  as_aux_lemma =>
  by_cases hf0 : 0 < F
  · have f0 : decide (0 < F) = true := by simp [hf0]
    have HFB := Lib.hid (F5.out.trans f0)
    go_wp2_with fail
    go_quiet ((go_at_call 31; exact quiet_same (b10Has_is _ (nrRow D i) x true _ (HUN.out.drewN _) HFB.out)))
    go_wp2_with fail
    go_roundw
    case rel => exact ⟨k + 1, by go_num, by omega, by rw [HSK.out]; go_num, below_drewN HBr.out _⟩
    case measure => simp [intOf]; omega
  · have hF0 : F = 0 := by omega
    subst hF0
    have HFB := Lib.hid (show hasB (nrRow D i) x = false by rw [F5.out]; rfl)
    go_wp2_with fail
    go_quiet ((go_at_call 31; exact quiet_same (b10Has_is _ (nrRow D i) x false _ (HUN.out.drewN _) HFB.out)))
    go_wp2_with fail
    go_roundw
    case rel => exact ⟨k + 1, by go_num, by omega, by rw [HSK.out]; go_num, below_drewN HBr.out _⟩
    case measure => simp [intOf]; omega

end Go.Proofs.Ytnhamdkpeefioaa
