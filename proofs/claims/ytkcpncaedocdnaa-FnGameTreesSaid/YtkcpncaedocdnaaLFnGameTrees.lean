/-
  FnGameTrees: the law's walk.
-/
import Derived.Test.YtkcpncaedocdnaaGames
import Derived.Test.YtkcpncaedocdnaaTreeDraw
namespace Go.Proofs.Ytkcpncaedocdnaa
open Go.RowKit

set_option maxHeartbeats 8000000 in
set_option maxRecDepth 100000 in
theorem lawGameTrees_any (w : World) (v0 : Value) (b0 : List Int) (r0 : RdB w v0 b0) (y0 : WfB b0) (v1 : Value) (b1 : List Int) (r1 : RdB w v1 b1) (y1 : WfB b1) :
    Calls Try.prog 13 #[v0, v1] w fun e w' => e = .returned (.bool true) ∧ Below w.heap.size w w' := by
  have R0 := Lib.hid r0
  have R1 := Lib.hid r1
  have Y0 := Lib.hid y0
  have Y1 := Lib.hid y1
  clear r0 r1 y0 y1
  by_cases hL : isLong b0 b1 = true
  · go_enter Try.func13, Try.ntmps13
    go_wp2_with (go_at_call 45; refine (b10Long_any _ _ b0 b1 _ R0.out R1.out).mono ?_; rintro e w' ⟨rfl, rfl⟩; rw [hL])
    go_ret
    exact ⟨rfl, Below.refl _ _⟩
  rw [Bool.not_eq_true] at hL
  have HL := Lib.hid hL
  clear hL
  go_enter Try.func13, Try.ntmps13
  go_upto_region 3 with (go_at_call 45; refine (b10Long_any _ _ b0 b1 _ R0.out R1.out).mono ?_; rintro e w' ⟨rfl, rfl⟩; rw [HL.out])
  go_wp2_with fail
  refine (B10Tree_any _ b0 w R0.out Y0.out).mono ?_
  rintro e w1 ⟨⟨P, V⟩, v', hv, rfl, ho, hb1⟩
  obtain ⟨pa, pc, qa, qc, rfl⟩ := ho.rd.shape
  obtain ⟨W0, l, N, E, hg1, hg2, hg3, hg4, hg5, hN1, hN2, hE, hl64, hway, hhas⟩ := games hv
  have hT := Lib.hid (validT_iff.2 hv)
  have G1 := Lib.hid hg1
  have G2 := Lib.hid hg2
  have G3 := Lib.hid hg3
  have G4 := Lib.hid hg4
  have G5 := Lib.hid hg5
  have GW := Lib.hid hway
  have GH := Lib.hid hhas
  have HV := Lib.hid hv
  have HO := Lib.hid ho
  have HB1 := Lib.hid hb1
  have hP1 := hv.1
  have hP2 := hv.2.1
  have hVP := Lib.hid hv.2.2.1
  simp only at hP1 hP2 hVP
  clear hg1 hg2 hg3 hg4 hg5 hway hhas hv ho hb1
  go_upto_region 4 with fail
  refine wp_at fun W hW => ?_
  have HK := Lib.hid (show Blk W w1.heap.size 28 #[.slice pa P.length pc, .slice qa V.length qc] by subst hW; exact Blk.new _ _ _)
  have hbW : Below w1.heap.size w1 W := by subst hW; (repeat' first | exact Below.refl _ _ | assumption | refine Below.alloc ?_ ?_ _ | refine Below.setCell ?_ ?_ _ | refine Below.drew ?_ | (simp; done) | (simp; omega))
  have HB := Lib.hid (HB1.out.trans (hbW.mono HB1.out.size))
  have HR := Lib.hid (HO.out.rd.up hbW (Nat.le_refl _))
  clear hW hbW HB1 HO
  have c0 : W.cell? ⟨w1.heap.size, 0, none⟩ = some (.slice pa P.length pc) := HK.out.cell 0 rfl
  have c1 : W.cell? ⟨w1.heap.size, 1, none⟩ = some (.slice qa V.length qc) := HK.out.cell 1 rfl
  go_wp2_with fail
  refine (implBest_any _ (P, V) W HR.out).mono ?_
  rintro e w2 ⟨vy, rfl, ho, hb⟩
  rw [hT.out, G1.out]
  rw [G2.out] at ho
  obtain ⟨ya, yc, rfl⟩ := ho.rd.shape
  have HY2 := Lib.hid ho.rd
  have HB2 := Lib.hid (HB.out.trans (hb.mono HB.out.size))
  have HK2 := Lib.hid (HK.out.below hb HK.out.lt)
  have HR2 := Lib.hid (HR.out.up hb (Nat.le_refl _))
  clear c0 c1 ho hb HK HB HR
  have c0 : w2.cell? ⟨w1.heap.size, 0, none⟩ = some (.slice pa P.length pc) := HK2.out.cell 0 rfl
  have c1 : w2.cell? ⟨w1.heap.size, 1, none⟩ = some (.slice qa V.length qc) := HK2.out.cell 1 rfl
  go_wp2_with fail
  refine (implLooks_any _ (P, V) w2 HR2.out).mono ?_
  rintro e w3 ⟨rfl, hb⟩
  rw [hT.out, G3.out, G4.out]
  have HY3 := Lib.hid (HY2.out.up hb (Nat.le_refl _))
  have HB3 := Lib.hid (HB2.out.trans (hb.mono HB2.out.size))
  have HK3 := Lib.hid (HK2.out.below hb HK2.out.lt)
  have HR3 := Lib.hid (HR2.out.up hb (Nat.le_refl _))
  clear c0 c1 hb HK2 HB2 HR2 HY2
  have c0 : w3.cell? ⟨w1.heap.size, 0, none⟩ = some (.slice pa P.length pc) := HK3.out.cell 0 rfl
  have c1 : w3.cell? ⟨w1.heap.size, 1, none⟩ = some (.slice qa V.length qc) := HK3.out.cell 1 rfl
  go_wp2_with fail
  refine (implLeaves_any _ (P, V) w3 HR3.out).mono ?_
  rintro e w4 ⟨ve, rfl, ho, hb⟩
  rw [hT.out]
  rw [G5.out] at ho
  obtain ⟨ea, ec, rfl⟩ := ho.rd.shape
  have HE4 := Lib.hid ho.rd
  have HY4 := Lib.hid (HY3.out.up hb (Nat.le_refl _))
  have HB4 := Lib.hid (HB3.out.trans (hb.mono HB3.out.size))
  have HK4 := Lib.hid (HK3.out.below hb HK3.out.lt)
  have HR4 := Lib.hid (HR3.out.up hb (Nat.le_refl _))
  clear c0 c1 ho hb HK3 HB3 HR3 HY3
  have c0 : w4.cell? ⟨w1.heap.size, 0, none⟩ = some (.slice pa P.length pc) := HK4.out.cell 0 rfl
  have c1 : w4.cell? ⟨w1.heap.size, 1, none⟩ = some (.slice qa V.length qc) := HK4.out.cell 1 rfl
  go_wp2_with fail
  refine (specLeaves_any _ (P, V) w4 HR4.out).mono ?_
  rintro e w5 ⟨vf, rfl, ho, hb⟩
  rw [hT.out]
  rw [G5.out] at ho
  obtain ⟨fa, fc, rfl⟩ := ho.rd.shape
  have HF5 := Lib.hid ho.rd
  have HE5 := Lib.hid (HE4.out.up hb (Nat.le_refl _))
  have HY5 := Lib.hid (HY4.out.up hb (Nat.le_refl _))
  have HB5 := Lib.hid (HB4.out.trans (hb.mono HB4.out.size))
  have HK5 := Lib.hid (HK4.out.below hb HK4.out.lt)
  have HR5 := Lib.hid (HR4.out.up hb (Nat.le_refl _))
  clear c0 c1 ho hb HK4 HB4 HR4 HY4 HE4
  as_aux_lemma =>
  have c0 : w5.cell? ⟨w1.heap.size, 0, none⟩ = some (.slice pa P.length pc) := HK5.out.cell 0 rfl
  have c1 : w5.cell? ⟨w1.heap.size, 1, none⟩ = some (.slice qa V.length qc) := HK5.out.cell 1 rfl
  have hyl := castL_len l
  have HYL := Lib.hid hyl
  clear hyl
  have hl0 := GW.out.2.1
  go_upto_region 8 with fail
  go_cut [106] from 23 (fun t wx => t = .bool false ∧ Below w5.heap.size w5 wx)
  case first =>
    as_aux_lemma =>
    go_wp2_with fail
    refine (implValidTree_o _ (P, V) w5 HR5.out).mono ?_
    rintro e w6 ⟨rfl, hb6⟩
    rw [hT.out]
    have HB6 := Lib.hid hb6
    clear c0 c1 hb6
    have c0 : w6.cell? ⟨w1.heap.size, 0, none⟩ = some (.slice pa P.length pc) := (HK5.out.below HB6.out HK5.out.lt).cell 0 rfl
    have c1 : w6.cell? ⟨w1.heap.size, 1, none⟩ = some (.slice qa V.length qc) := (HK5.out.below HB6.out HK5.out.lt).cell 1 rfl
    go_wp2_with fail
    refine (implSameTree_o _ (P, V) _ (P, V) w6 (HR5.out.up HB6.out (Nat.le_refl _)) (HR5.out.up HB6.out (Nat.le_refl _))).mono ?_
    rintro e w7 ⟨rfl, hb7⟩
    have hst : sameT (P, V) (P, V) = true := by simp [sameT]
    rw [hst]
    have HB7 := Lib.hid (HB6.out.trans (hb7.mono HB6.out.size))
    clear c0 c1 hb7 hst
    have hy0 : 0 < (castL l).length := by rw [castL_len]; exact hl0
    obtain ⟨yb, yo, rfl, _, hc0⟩ := (HY5.out.up HB7.out (Nat.le_refl _)).at (i := 0) hy0
    rw [castL_at, GW.out.1, Nat.add_zero] at hc0
    have hNE : (N : Int) ≤ (E.length : Int) := by omega
    have hN1' : (1 : Int) ≤ (N : Int) := by omega
    have hl1' : (1 : Int) ≤ ((castL l).length : Int) := by omega
    go_wp2_with fail
    refine (b10Ints_any _ _ _ _ _ _ E E _ rfl rfl (HE5.out.up HB7.out (Nat.le_refl _)) (HF5.out.up HB7.out (Nat.le_refl _))).mono ?_
    rintro e w8 ⟨rfl, n, rfl⟩
    have hee : decide (E = E) = true := by simp
    rw [hee]
    clear hee
    go_wp2_with fail
    go_meet
    case rel => exact ⟨congrArg Value.bool (by simp only [Bool.or_eq_false_iff, decide_eq_false_iff_not]; omega), below_drewN HB7.out _⟩
  case rest =>
  obtain ⟨rfl, hbl⟩ := hcut
  obtain ⟨wx, rfl⟩ : ∃ wx : World, wx = wc := ⟨_, rfl⟩
  have HYx := Lib.hid (HY5.out.up hbl (Nat.le_refl _))
  have HFx := Lib.hid (HF5.out.up hbl (Nat.le_refl _))
  have HBx := Lib.hid (HB5.out.trans (hbl.mono HB5.out.size))
  have HKx := Lib.hid (HK5.out.below hbl HK5.out.lt)
  have HRx := Lib.hid (HR5.out.up hbl (Nat.le_refl _))
  clear hbl HY5 HF5 HB5 HK5 HR5 HE5 c0 c1
  as_aux_lemma =>
  go_wp2_with fail
  go_loopw [109] (fun i wr => ∃ k : Nat, i = .int .i64 k ∧ k ≤ (castL l).length ∧ Below wx.heap.size wx wr) (fun i _ => (castL l).length - (intOf i).toNat)
  case atStart => exact ⟨0, rfl, Nat.zero_le _, Below.refl _ _⟩
  case round =>
  obtain ⟨k, rfl, hk, hbl⟩ := hrel
  have HBL := Lib.hid hbl
  clear hbl
  by_cases hlt : k < (castL l).length
  · have hkl : k < l.length := by rw [← castL_len]; exact hlt
    have c0 : wr.cell? ⟨w1.heap.size, 0, none⟩ = some (.slice pa P.length pc) := (HKx.out.below HBL.out HKx.out.lt).cell 0 rfl
    obtain ⟨yb, yo, rfl, _, hc1⟩ := (HYx.out.up HBL.out (Nat.le_refl _)).at (i := k) hlt
    rw [castL_at] at hc1
    obtain ⟨g1, g2⟩ := GW.out.2.2.1 k hkl
    obtain ⟨x, hx⟩ : ∃ x, x = l.getD k 0 := ⟨_, rfl⟩
    rw [← hx] at hc1 g1 g2
    clear hx
    have t1 : decide ((x : Int) < 0) = false := by simp
    have t2 : decide ((P.length : Int) ≤ (x : Int)) = false := by simp; omega
    have t2n : decide (P.length ≤ x) = false := by simp; omega
    have k1 : (k : Int) < ((castL l).length : Int) := by omega
    have k2 : (x : Int) < (P.length : Int) := by omega
    by_cases hk0 : 0 < k
    · obtain ⟨pb, po, rfl, _, hc2⟩ := ((HRx.out.parts.1).up HBL.out (Nat.le_refl _)).at (i := x) (by simpa using g1)
      have g3 := g2 hk0
      simp only at hc2
      rw [g3] at hc2
      obtain ⟨yb', yo', he, _, hc3⟩ := (HYx.out.up HBL.out (Nat.le_refl _)).at (i := k - 1) (by omega)
      simp only [Option.some.injEq, Addr.mk.injEq, and_true] at he
      obtain ⟨rfl, rfl⟩ := he
      rw [castL_at] at hc3
      obtain ⟨z, hz⟩ : ∃ z, z = l.getD (k - 1) 0 := ⟨_, rfl⟩
      rw [← hz] at hc2 hc3
      clear hz g2 g3
      have t3a : decide (0 < k) = true := by simp [hk0]
      have t3b : decide ((0 : Int) < (k : Int)) = true := by simp [hk0]
      have t3c : (0 : Int) < (k : Int) := by omega
      have s1 : IntKind.i64.wrap ((k : Int) - 1) = (k : Int) - 1 := IntWalk.i64_in _ (by omega)
      have s2 : ((k : Int) - 1).toNat = k - 1 := by omega
      have s3 : (0 : Int) ≤ (k : Int) - 1 := by omega
      have s3b : (1 : Int) ≤ (k : Int) := by omega
      have s3c : 1 ≤ k := by omega
      have s4 : (k : Int) - 1 < ((castL l).length : Int) := by omega
      go_wp2_with fail
      go_quiet (fail)
      clear s1 s2
      go_wp2_with fail
      go_roundw
      case rel => exact ⟨k + 1, by go_num, by omega, below_drewN HBL.out _⟩
      case measure => simp [intOf]; omega
    · obtain rfl : k = 0 := by omega
      rw [Nat.add_zero] at hc1
      clear hk0 g2
      go_wp2_with fail
      go_quiet (fail)
      go_wp2_with fail
      go_roundw
      case rel => exact ⟨0 + 1, by go_num, by omega, below_drewN HBL.out _⟩
      case measure => simp [intOf]; omega
  have hkl : k = (castL l).length := by omega
  subst hkl
  have HYr := Lib.hid (HYx.out.up HBL.out (Nat.le_refl _))
  have HFr := Lib.hid (HFx.out.up HBL.out (Nat.le_refl _))
  have HBr := Lib.hid (HBx.out.trans (HBL.out.mono HBx.out.size))
  have HKr := Lib.hid (HKx.out.below HBL.out HKx.out.lt)
  have HRr := Lib.hid (HRx.out.up HBL.out (Nat.le_refl _))
  obtain ⟨wq, rfl⟩ : ∃ wq : World, wq = wr := ⟨_, rfl⟩
  clear HBL HYx HFx HBx HKx HRx
  as_aux_lemma =>
  have hyl : (castL l).length - 1 < (castL l).length := by have := HYL.out; omega
  obtain ⟨yb, yo, rfl, _, hc1⟩ := HYr.out.at (i := (castL l).length - 1) hyl
  have hyL : (castL l).length - 1 = l.length - 1 := by rw [castL_len]
  rw [castL_at] at hc1
  have HGX := Lib.hid (GW.out.2.2.1 (l.length - 1) (by omega))
  have HGV := Lib.hid GW.out.2.2.2.2
  have HGH := Lib.hid GH.out
  rw [← hyL] at HGX HGV HGH
  clear hyL
  obtain ⟨x, hx⟩ : ∃ x, x = l.getD ((castL l).length - 1) 0 := ⟨_, rfl⟩
  rw [← hx] at hc1 HGX HGV HGH
  clear hx
  obtain ⟨Y, hY⟩ : ∃ Y, Y = (castL l).length := ⟨_, rfl⟩
  rw [← hY] at hc1 hyl ⊢
  have hY64 : Y ≤ 64 := by rw [hY, castL_len]; exact hl64
  have hY1 : 1 ≤ Y := by omega
  have HYY := Lib.hid hY
  clear hY
  have hxV : x < V.length := by have h1 := HGX.out.1; have h2 := hVP.out; omega
  obtain ⟨qb, qo, rfl, _, hc2⟩ := (HRr.out.parts.2).at (i := x) (by simpa using hxV)
  simp only at hc2
  have hgv := HGV.out
  rw [hgv] at hc2
  clear hgv
  have c1 : wq.cell? ⟨w1.heap.size, 1, none⟩ = some (.slice (some ⟨qb, qo, none⟩) V.length qc) := HKr.out.cell 1 rfl
  have s2 : ((Y : Int) - 1).toNat = Y - 1 := by omega
  have s3 : (0 : Int) ≤ (Y : Int) - 1 := by omega
  have k2 : (x : Int) < (V.length : Int) := by omega
  go_upto_region 19 with (go_at_call 70; refine (b10Has_any _ E x _ HFr.out).mono ?_; rintro e w' ⟨rfl, rfl⟩; rw [HGH.out])
  clear s2 s3 hc1 hc2 c1
  go_cut [169] from 167 (fun t wx => ∃ b : Bool, t = .bool b ∧ wq = wx)
  case first =>
    go_wp2_with (go_at_call 46; refine (b10At_any _ b1 0 2 _ (R1.out.up HBr.out (Nat.le_refl _)) Y1.out (by omega) (by omega) (by omega) (by omega)).mono ?_; rintro e w' ⟨r, hr0, hr1, rfl, rfl⟩)
    go_meet
    case rel => exact ⟨_, rfl, rfl⟩
  case rest =>
  obtain ⟨b, rfl, hwx⟩ := hcut
  subst hwx
  cases b
  case true =>
    go_wp2_with fail
    go_ret
    exact ⟨rfl, HBr.out⟩
  case false =>
  as_aux_lemma =>
  have hPr := HRr.out.parts.1
  have hQr := HRr.out.parts.2
  simp only at hPr hQr
  have HPr := Lib.hid hPr
  have HQr := Lib.hid hQr
  have hVl := hVP.out
  have hV64 : V.length ≤ 17592186044416 := by omega
  have hVPl := Lib.hid hVl
  clear hPr hQr hVl
  have htl := HKr.out.lt
  go_upto_region 21 with fail
  go_cut [18] from 23 (fun t wx => ∃ (g : Nat) (ya : Option Addr) (yc : Nat), t = .pointer (some ⟨g, 0, none⟩) ∧ Blk wx g 28 #[.slice pa P.length pc, .slice ya V.length yc] ∧ OwnI wq.heap.size wx.heap.size wx (.slice ya V.length yc) V ∧ wq.heap.size ≤ g ∧ Below wq.heap.size wq wx)
  case first =>
    as_aux_lemma =>
    have HKEEP := Lib.hid (show ∀ X, Below wq.heap.size wq X → X.cell? ⟨w1.heap.size, 0, none⟩ = some (.slice pa P.length pc) ∧ X.cell? ⟨w1.heap.size, 1, none⟩ = some (.slice (some ⟨qb, qo, none⟩) V.length qc) from fun X hb => by
      have k := HKr.out.below hb HKr.out.lt
      exact ⟨k.cell 0 rfl, k.cell 1 rfl⟩)
    go_region_held3 (fun X => X.cell? ⟨w1.heap.size, 0, none⟩ = some (.slice pa P.length pc) ∧ X.cell? ⟨w1.heap.size, 1, none⟩ = some (.slice (some ⟨qb, qo, none⟩) V.length qc))
      (first | (refine HKEEP.out _ ?_; (repeat' first | exact Below.refl _ _ | assumption | refine Below.alloc ?_ ?_ _ | refine Below.setCell ?_ ?_ _ | refine Below.drew ?_ | (simp; done) | (simp; omega)); done) | go_keep)
      (first
        | (refine step_app_intsL rfl (.tmp 172) (.tmp 174) (by rfl) wq.heap.size (.slice (some ⟨_, 0, none⟩) 0 0) 0 [] (by rfl) (by first | exact owns_base (owns_emptyB _ _ (by simp)) (by simp) | exact owns_base ((owns_emptyB _ _ (by simp)).alloc _) (by simp) | exact owns_drew (owns_base (owns_emptyB _ _ (by simp)) (by simp)) | exact owns_drew (owns_base ((owns_emptyB _ _ (by simp)).alloc _) (by simp))) _ V (by rfl) (Slc.below (B := wq.heap.size) HQr.out (by (repeat' first | exact Below.refl _ _ | assumption | refine Below.alloc ?_ ?_ _ | refine Below.setCell ?_ ?_ _ | refine Below.drew ?_ | (simp; done) | (simp; omega))) (Nat.le_refl _)) V.length V (by simp) (by simp) hV64 (by first | (simp; done) | (simp; omega)) ?_; intro a' cap' w1' hown hbl0 hg hl; have hbl1 : Below wq.heap.size wq w1' := Below.trans (by (repeat' first | exact Below.refl _ _ | assumption | refine Below.alloc ?_ ?_ _ | refine Below.setCell ?_ ?_ _ | refine Below.drew ?_ | (simp; done) | (simp; omega))) hbl0; clear hbl0; have hbs := hbl1.size
           (first
             | (have k := blkI_grown (b := wq.heap.size) (t := 28) (cs := #[.slice none 0 0, .slice none 0 0]) (by exact (Blk.new _ _ _).alloc _) hg (by simp [Value.ownBlock]); have t0 := k.cell 0 rfl; have t1 := k.cell 1 rfl; have u0 := k.free 0; have u1 := k.free 1; have HBk := Lib.hid k; clear k)
             | (have k := blkI_grown (b := wq.heap.size + 1) (t := 28) (cs := #[.slice none 0 0, .slice none 0 0]) (by exact blkI_newB _ _ _ _ (by simp)) hg (by simp [Value.ownBlock]); have t0 := k.cell 0 rfl; have t1 := k.cell 1 rfl; have u0 := k.free 0; have u1 := k.free 1; have HBk := Lib.hid k; clear k)
             | skip))
        | fail)
    all_goals
      go_wp2_with fail
      first
        | (have hne := HBk.out.not_owned hown (by decide); clear t0 t1 u0 u1)
        | skip
      go_meet
    case rel =>
      refine ⟨_, _, _, rfl, blkI_newB _ _ _ _ (by simp), ((OwnI.mk hown).up ((Below.refl _ _).alloc (Nat.le_refl _) _) (Nat.le_refl _)).wide (Nat.le_refl _) (by simp), by simpa using hbs, hbl1.alloc hbs _⟩
    case rel =>
      exact ⟨_, _, _, rfl, by simpa using ((HBk.out.set 0 (.slice pa P.length pc)).set 1 (.slice a' V.length cap')), OwnI.mk (ownsRow_setCell_other (ownsRow_setCell_other hown hne _) hne _), Nat.le_succ _, (hbl1.setCell (Nat.le_succ _) _).setCell (Nat.le_succ _) _⟩
    case rel =>
      exact ⟨_, _, _, rfl, by simpa using ((HBk.out.set 0 (.slice pa P.length pc)).set 1 (.slice a' V.length cap')), OwnI.mk (ownsRow_setCell_other (ownsRow_setCell_other hown hne _) hne _), Nat.le_refl _, (hbl1.setCell (Nat.le_refl _) _).setCell (Nat.le_refl _) _⟩
  case rest =>
  as_aux_lemma =>
  obtain ⟨g, za, zc, rfl, hbk, hov, hg, hbl⟩ := hcut
  obtain ⟨wx, rfl⟩ : ∃ wx : World, wx = wc := ⟨_, rfl⟩
  have HBK := Lib.hid hbk
  have HOV := Lib.hid hov
  have HBx := Lib.hid (HBr.out.trans (hbl.mono HBr.out.size))
  have HBL2 := Lib.hid hbl
  have hzx := hbl.size
  have hgl := hbk.lt
  have e1 : wx.cell? ⟨g, 1, none⟩ = some (.slice za V.length zc) := hbk.cell 1 rfl
  have hPos : 0 < V.length := by have := hVPl.out; omega
  obtain ⟨gz, rfl, hgz⟩ := owns_slice_some hov.1 hPos
  have hgz2 := hov.2 gz rfl
  have HNG := Lib.hid (hbk.not_owned hov.1 (by decide))
  clear hbk hov hbl
  go_wp2_with fail
  go_loopw [180] (fun i wr => ∃ (k : Nat) (U : List Int), i = .int .i64 k ∧ k ≤ V.length ∧ U.length = V.length ∧ Hid (∀ j, j < k → U.getD j 0 = 3) ∧ wr.ownsRow wq.heap.size 2 1 (.slice (some ⟨gz, 0, none⟩) V.length zc) V.length (U.map I64) ∧ Blk wr g 28 #[.slice pa P.length pc, .slice (some ⟨gz, 0, none⟩) V.length zc] ∧ Kept (· = gz) wx wr) (fun i _ => V.length - (intOf i).toNat)
  case atStart => exact ⟨0, V, rfl, Nat.zero_le _, rfl, fun j hj => by omega, HOV.out.1, HBK.out, Kept.refl _ _⟩
  case round =>
  obtain ⟨k, U, rfl, hk, hUl, hU3, hown, hbk, hkp⟩ := hrel
  have HUL := Lib.hid hUl
  have HO1 := Lib.hid hown
  have HB1 := Lib.hid hbk
  have HK1 := Lib.hid hkp
  clear hUl hown hbk hkp e1
  by_cases hlt : k < V.length
  · have e1 : wr.cell? ⟨g, 1, none⟩ = some (.slice (some ⟨gz, 0, none⟩) V.length zc) := HB1.out.cell 1 rfl
    have hd := HO1.out.cellAt k (by omega)
    have hfr := HO1.out.frozenAt k
    have hdl : (U.map I64)[k]? = some (.int .i64 (U.getD k 0)) := by simp [I64, HUL.out, hlt]
    rw [hdl] at hd
    clear hdl
    go_wp2_with fail
    go_roundw
    case rel =>
      refine ⟨k + 1, U.set k 3, by go_num, by omega, by rw [List.length_set]; exact HUL.out, ?_, ?_, ?_, HK1.out.setCell (.inr rfl) _⟩
      · intro j hj
        by_cases he : j = k
        · subst he; simp [HUL.out, hlt]
        · have := hU3.out j (by omega)
          simp only [List.getD_eq_getElem?_getD] at this ⊢
          rw [List.getElem?_set_ne (Ne.symm he)]; exact this
      · have h1 := (HO1.out.stored k (.int .i64 3)).1
        rw [List.map_set]
        exact h1
      · refine HB1.out.other (fun e => HNG.out ?_) _
        simp only [Value.ownBlock] at e ⊢
        rw [e]
    case measure => simp [intOf]; omega
  obtain rfl : k = V.length := by omega
  have e0 : wr.cell? ⟨g, 0, none⟩ = some (.slice pa P.length pc) := HB1.out.cell 0 rfl
  have e1 : wr.cell? ⟨g, 1, none⟩ = some (.slice (some ⟨gz, 0, none⟩) V.length zc) := HB1.out.cell 1 rfl
  have H3 := Lib.hid (show ∀ i, i < P.length → U.getD i 0 = 3 from fun i hi => hU3.out i (by have := hVPl.out; omega))
  have HV3 := Lib.hid (val_const (V' := U) HV.out HUL.out H3.out)
  have HRT := Lib.hid (show RdT wr (.agg #[.slice pa P.length pc, .slice (some ⟨gz, 0, none⟩) V.length zc]) (P, U) from ⟨_, _, rfl, HPr.out.up (HBL2.out.trans (HK1.out.toBelow hzx (by intro k h1 h2; omega))) (Nat.le_refl _), slc_of_owns HO1.out⟩)
  have hfin : Below w.heap.size w wr := HBx.out.trans (HK1.out.toBelow HBx.out.size (by intro k h1 h2; have := HBr.out.size; omega))
  have HFIN := Lib.hid hfin
  clear hfin
  go_wp2_with fail
  refine (implBest_any _ (P, U) wr HRT.out).mono ?_
  rintro e w9 ⟨vz, rfl, hoz, hb9⟩
  rw [validT_iff.2 HV3.out, games_const HV3.out H3.out]
  obtain ⟨zza, zzc, rfl⟩ := hoz.rd.shape
  have HF9 := Lib.hid (HFIN.out.trans (hb9.mono HFIN.out.size))
  clear hoz hb9 e0 e1
  go_wp2_with fail
  go_ret
  exact ⟨rfl, HF9.out⟩

end Go.Proofs.Ytkcpncaedocdnaa
