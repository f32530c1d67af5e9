/-
  FnExactWholeGap: texts joined: TbfI, PivM.
-/
import Derived.Test.YtkfiepiipigcmaaMEWholeGapAI
import Derived.Test.YtkfiepiipigcmaaMEWholeGapAJ
namespace Go.Proofs.Ytkfiepiipigcmaa
open Go.RowKit

set_option maxHeartbeats 4000000 in
set_option maxRecDepth 8000 in
theorem tableOfI_no (v : Value) (r : RowsD) (w : World) (h : RdR w v r) (hv : validR r = false) :
    Calls Try.prog 146 #[v] w fun e w' => e = .returned (.tuple #[.agg #[.int .i64 0, .slice none 0 0, .slice none 0 0], .bool false]) ∧ Below w.heap.size w w' := by
  have HRV := Lib.hid (fun X (hb : Below w.heap.size w X) => ValidRows_any v r X (h.up hb (Nat.le_refl _)))
  rw [hv] at HRV
  obtain ⟨a1, c1, a2, c2, a3, c3, rfl⟩ := h.shape
  clear h hv
  go_enter Try.func146, Try.ntmps146
  go_upto_region 1 with fail
  refine wp_at fun W0 hW0 => ?_
  have HB0 := Lib.hid (show Below w.heap.size w W0 by subst hW0; (repeat' first | exact Below.refl _ _ | assumption | refine Below.alloc ?_ ?_ _ | refine Below.setCell ?_ ?_ _ | refine Below.drew ?_ | (simp; done) | (simp; omega)))
  have HK0 := Lib.hid (show Blk W0 w.heap.size 67 #[.int .i64 r.vars, .slice a1 r.nums.length c1, .slice a2 r.bnds.length c2, .slice a3 r.gains.length c3] by subst hW0; exact (Blk.new _ _ _).alloc _)
  have HR0 := Lib.hid (show Blk W0 (w.heap.size + 1) 136 #[.int .i64 0, .slice none 0 0, .slice none 0 0] by subst hW0; simpa using Blk.new (w.alloc (.cells #[.int .i64 r.vars, .slice a1 r.nums.length c1, .slice a2 r.bnds.length c2, .slice a3 r.gains.length c3] 67)) 136 #[.int .i64 0, .slice none 0 0, .slice none 0 0])
  have hz0 := HB0.out.size
  clear hW0
  have d0 := HK0.out.cell 0 rfl
  have d1 := HK0.out.cell 1 rfl
  have d2 := HK0.out.cell 2 rfl
  have d3 := HK0.out.cell 3 rfl
  go_wp2_with (go_at_call 119; refine (HRV.out W0 HB0.out).mono ?_; rintro e w2 ⟨rfl, hb2⟩; have HR2 := Lib.hid (HR0.out.below hb2 HR0.out.lt); have HB2 := Lib.hid (HB0.out.trans (hb2.mono hz0)); have r0 := HR2.out.cell 0 rfl; have r1 := HR2.out.cell 1 rfl; have r2 := HR2.out.cell 2 rfl; have s0 := HR2.out.free 0; have s1 := HR2.out.free 1; have s2 := HR2.out.free 2)
  refine bodyPost_ret (v := .tuple #[.agg #[.int .i64 0, .slice none 0 0, .slice none 0 0], .bool false]) (by simp [results, Try.results146, go_sem, *]) rfl ⟨rfl, ?_⟩
  have FIN : ∀ Wf, Kept (· = w.heap.size + 1) w2 Wf → Below w.heap.size w Wf := fun Wf hk => HB2.out.trans (hk.toBelow HB2.out.size (by intro k h1 h2; omega))
  refine FIN _ ?_
  repeat' first | exact Kept.refl _ _ | refine Kept.setCell ?_ (.inr (by simp)) _

set_option maxHeartbeats 8000000 in
set_option maxRecDepth 8000 in
theorem tableOfI_yes (v : Value) (r : RowsD) (w : World) (h : RdR w v r) (hv : validR r = true) :
    Calls Try.prog 146 #[v] w fun e w' => ∃ tv, e = .returned (.tuple #[tv, .bool true]) ∧ (∀ Wg, Kept (· < w.heap.size) w' Wg → RdTb Wg tv (tableT r)) ∧ Below w.heap.size w w' := by
  have hval := validR_iff.1 hv
  have HRD := Lib.hid h
  have HVL := Lib.hid hval
  have HRV := Lib.hid (fun X (hb : Below w.heap.size w X) => ValidRows_any v r X (h.up hb (Nat.le_refl _)))
  rw [hv] at HRV
  have HROW := Lib.hid (fun X (hb : Below w.heap.size w X) i (hi : i < r.bnds.length) => row_any v r i X (h.up hb (Nat.le_refl _)) hval hi)
  obtain ⟨a1, c1, a2, c2, a3, c3, rfl⟩ := h.shape
  have HP2 := Lib.hid h.parts.2.1
  have HP3 := Lib.hid h.parts.2.2
  have HTAB := Lib.hid (show tableT r = ⟨r.gains.length, tabN r r.bnds.length ++ tabG r r.gains.length ++ List.replicate (r.bnds.length + 1) 0, tabB r r.bnds.length⟩ from rfl)
  have HNB := Lib.hid (fun i => tabB_next r i)
  have HNN := Lib.hid (fun i => show tabN r (i + 1) = tabN r i ++ (rowO r i ++ unitsL r.bnds.length i ++ [r.bnds.getD i 0]) from rfl)
  have HNG := Lib.hid (tabG_next r)
  have HRL := Lib.hid (fun i (hi : i < r.bnds.length) => rowO_len hval hi)
  have hg8 : r.gains.length ≤ 8 := by have := hval.v8; have := hval.gl; omega
  have hg1 : 1 ≤ r.gains.length := by have := hval.v1; have := hval.gl; omega
  have hb8 := hval.b8
  have hb1 := hval.b1
  obtain ⟨i0, hif, hzf0, hzf1, hzf2⟩ := info_parts Try.infoF32
  rw [hval.gl.symm] at HRV HROW HNB ⊢
  obtain ⟨G, hG⟩ : ∃ G, G = r.gains.length := ⟨_, rfl⟩
  obtain ⟨N, hN⟩ : ∃ N, N = r.bnds.length := ⟨_, rfl⟩
  obtain ⟨L, hL⟩ : ∃ L, L = r.nums.length := ⟨_, rfl⟩
  have HGE := Lib.hid hG
  have HNE := Lib.hid hN
  rw [← hG] at HRV HROW HNB HTAB HNG HRL hg8 hg1 ⊢
  rw [← hN] at HRV HROW HNN HTAB HRL hb8 hb1 ⊢
  rw [← hL] at HRV HROW ⊢
  clear h hv hval hG hN hL HRD
  go_enter Try.func146, Try.ntmps146
  go_upto_region 1 with fail
  refine wp_at fun W0 hW0 => ?_
  have HB0 := Lib.hid (show Below w.heap.size w W0 by subst hW0; (repeat' first | exact Below.refl _ _ | assumption | refine Below.alloc ?_ ?_ _ | refine Below.setCell ?_ ?_ _ | refine Below.drew ?_ | (simp; done) | (simp; omega)))
  have HK0 := Lib.hid (show Blk W0 w.heap.size 67 #[.int .i64 G, .slice a1 L c1, .slice a2 N c2, .slice a3 G c3] by subst hW0; exact (Blk.new _ _ _).alloc _)
  have HR0 := Lib.hid (show Blk W0 (w.heap.size + 1) 136 #[.int .i64 0, .slice none 0 0, .slice none 0 0] by subst hW0; simpa using Blk.new (w.alloc (.cells #[.int .i64 G, .slice a1 L c1, .slice a2 N c2, .slice a3 G c3] 67)) 136 #[.int .i64 0, .slice none 0 0, .slice none 0 0])
  have hz0 := HB0.out.size
  clear hW0
  have d0 := HK0.out.cell 0 rfl
  have d1 := HK0.out.cell 1 rfl
  have d2 := HK0.out.cell 2 rfl
  have d3 := HK0.out.cell 3 rfl
  go_upto_region 4 with (go_at_call 119; refine (HRV.out W0 HB0.out).mono ?_; rintro e w1 ⟨rfl, hb1⟩; have HR1 := Lib.hid (HR0.out.below hb1 HR0.out.lt); have HK1 := Lib.hid (HK0.out.below hb1 HK0.out.lt); have HB1 := Lib.hid (HB0.out.trans (hb1.mono hz0)); have e0 := HK1.out.cell 0 rfl)
  refine wp_at fun W3 hW3 => ?_
  obtain ⟨q, hq⟩ : ∃ q, q = w1.heap.size := ⟨_, rfl⟩
  have HQ3 := Lib.hid (show Blk W3 q 136 #[.int .i64 G, .slice none 0 0, .slice none 0 0] by subst hW3 hq; exact Blk.new _ _ _)
  have HK3 := Lib.hid (show Blk W3 w.heap.size 67 #[.int .i64 G, .slice a1 L c1, .slice a2 N c2, .slice a3 G c3] by subst hW3; exact HK1.out.alloc _)
  have HR3 := Lib.hid (show Blk W3 (w.heap.size + 1) 136 #[.int .i64 0, .slice none 0 0, .slice none 0 0] by subst hW3; exact HR1.out.alloc _)
  have HB3 := Lib.hid (show Below w.heap.size w W3 by subst hW3; exact HB1.out.alloc HB1.out.size _)
  have hqw : w.heap.size + 1 < q := by rw [hq]; exact HR1.out.lt
  have hq3 : q < W3.heap.size := HQ3.out.lt
  have hz3 := HB3.out.size
  rw [← hq]
  clear hW3 hq d0 d1 d2 d3 e0 hb1
  have d0 := HK3.out.cell 0 rfl
  have d2 := HK3.out.cell 2 rfl
  go_wp2_with fail
  go_loopw [21] (fun iv wr => ∃ (i : Nat) (b : Option Addr) (cc : Nat), iv = .int .i64 i ∧ i ≤ N ∧ Hid (Blk wr q 136 #[.int .i64 G, .slice none 0 0, .slice b i cc]) ∧ Hid (wr.ownsRow W3.heap.size 2 1 (.slice b i cc) i ((tabB r i).map I64)) ∧ Hid (Kept (· = q) W3 wr)) (fun iv _ => N + 1 - (intOf iv).toNat)
  case atStart => exact ⟨0, none, 0, rfl, Nat.zero_le _, HQ3, Lib.hid (World.ownsRow_nil _ _ _ _), Lib.hid (Kept.refl _ _)⟩
  case round =>
    obtain ⟨i, b, cc, rfl, hi, HQ, HO, HKP⟩ := hrel
    obtain ⟨wo, rfl⟩ : ∃ wo, wo = wr := ⟨wr, rfl⟩
    have HKo := Lib.hid (HK3.out.kept HKP.out (by omega))
    have hzo := HKP.out.size
    by_cases hlt : i < N
    · have hltI : (i : Int) < (N : Int) := by omega
      have HPE := HNB.out i
      have HPE := Lib.hid HPE
      have d0 := HKo.out.cell 0 rfl
      have q2 := HQ.out.cell 2 rfl
      go_wp2_with (at_builtin; refine app_ints rfl _ _ rfl W3.heap.size (.slice b i cc) i (tabB r i) rfl (HO.out.alloc _) _ [(G : Int) + (i : Int)] rfl (slc_oneB _ _ _ (by simp)) (i + 1) (tabB r (i + 1)) (by simp) HPE.out (by omega) (by simp; omega) ?_; intro b3 c3' w3 hown3 hbl3 _ _; have HO3 := Lib.hid hown3; have HQ4 := Lib.hid ((HQ.out.alloc (.cells #[.int .i64 ((G : Int) + (i : Int))] 2)).below hbl3 hq3); have HKP4 := Lib.hid (HKP.out.below (((Below.refl _ _).alloc hzo _).trans hbl3) (Nat.le_refl _)); have s2 := HQ4.out.free 2; have t2 := HQ4.out.cell 2 rfl; clear hown3 hbl3)
      go_roundw
      case rel =>
        refine ⟨i + 1, b3, c3', by go_num, by omega, Lib.hid (by simpa using HQ4.out.set 2 (.slice b3 (i + 1) c3')), Lib.hid (owns_kept HO3.out (Kept.setCell (S := (· = q)) (Kept.refl _ _) (.inr rfl) _) (fun g hg => by have := (owns_lt HO3.out hg).1; omega)), Lib.hid (HKP4.out.setCell (.inr rfl) _)⟩
      case measure => simp [intOf]; omega
    · obtain rfl : i = N := by omega
      have HBW := Lib.hid (HB3.out.trans (HKP.out.toBelow hz3 (by intro k h1 h2; omega)))
      have HBI := HO
      have hqo : q < wo.heap.size := by omega
      have d2 := HKo.out.cell 2 rfl
      clear HO d0
      have HRP := Lib.hid (HR3.out.kept HKP.out (by omega))
      go_wp2_with fail
      go_loopw [37] (fun iv wr => ∃ (j z : Nat) (g : Option Addr) (cg : Nat), iv = .int .i64 j ∧ j ≤ i ∧ z ≤ 17 * j ∧ Hid (Blk wr q 136 #[.int .i64 G, .slice g z cg, .slice b i cc]) ∧ Hid (wr.ownsRow wo.heap.size 63 1 (.slice g z cg) z ((tabN r j).map F32)) ∧ Hid (Kept (· = q) wo wr)) (fun iv _ => i + 1 - (intOf iv).toNat)
      case atStart => exact ⟨0, 0, none, 0, rfl, Nat.zero_le _, Nat.zero_le _, HQ, Lib.hid (World.ownsRow_nil _ _ _ _), Lib.hid (Kept.refl _ _)⟩
      case round =>
        obtain ⟨j, z, g, cg, rfl, hj, hz, HQj, HO, HKj⟩ := hrel
        obtain ⟨wj, rfl⟩ : ∃ wj, wj = wr := ⟨wr, rfl⟩
        have HKoj := Lib.hid (HKo.out.kept HKj.out (by omega))
        have hzj := HKj.out.size
        have HBWj := Lib.hid (HBW.out.trans (HKj.out.toBelow HBW.out.size (by intro k h1 h2; omega)))
        by_cases hlt : j < i
        · have hltI : (j : Int) < (i : Int) := by omega
          obtain ⟨pb, po, rfl, _, hc⟩ := (HP2.out.up HBWj.out (Nat.le_refl _)).at (i := j) (by rw [← HNE.out]; exact hlt)
          have hE := HNN.out j
          have hrl := HRL.out j hlt
          have HRWj := Lib.hid (fun X hb => HROW.out X hb j hlt)
          obtain ⟨bd, hbd⟩ : ∃ bd, bd = r.bnds.getD j 0 := ⟨_, rfl⟩
          rw [← hbd] at hc hE
          obtain ⟨rw', hrw⟩ : ∃ rw', rw' = rowO r j := ⟨_, rfl⟩
          rw [← hrw] at hE hrl HRWj
          have HE := Lib.hid hE
          clear hbd hrw hE
          have d2 := HKoj.out.cell 2 rfl
          go_upto_region 13 with (at_make; refine wpList_make_full _ rfl _ _ 60 rfl wj.heap.size 63 i0 (.float .f32 0) 1 Try.underlying60 hif hzf0 hzf1 .i64 .i64 i i i rfl rfl rfl rfl (by rw [hzf2]; omega) (by simp [maxLen]; omega) (by simp) ?_; intro w5 hown5 hgrow5)
          have hbU := (Below.refl wj.heap.size wj).grown hgrow5 (Nat.le_refl _) (by intro k hk; cases hk)
          have hmc : (madeCells (Value.float .f32 0).cells (i * 1)).toList = (List.replicate i 0).map F32 := by
            rw [List.map_replicate]
            show _ = List.replicate i (Value.float .f32 0)
            simpa [Value.cells] using toList_madeCells_one (Value.float .f32 0) i
          rw [hmc] at hown5
          obtain ⟨u, hu⟩ : ∃ u, u = wj.heap.size := ⟨_, rfl⟩
          rw [← hu] at hown5 hbU ⊢
          have k1 : w5.cell? ⟨u, j, none⟩ = some (.float .f32 0) := by
            rw [hown5.cellAt j (by omega), List.map_replicate, List.getElem?_replicate, if_pos hlt]; rfl
          have k2 := hown5.frozenAt j
          have hst := (hown5.stored j (.float .f32 1065353216)).1
          rw [show ((List.replicate i 0).map F32).set j (.float .f32 1065353216) = (unitsL i j).map F32 by rw [← unitsL_set i j hlt, List.map_set]; rfl] at hst
          have HU5 := Lib.hid hst
          have HB5 := Lib.hid (show Below u wj (w5.setCell ⟨u, j, none⟩ (.float .f32 1065353216)) from hbU.setCell (Nat.le_refl _) _)
          have HUE := Lib.hid hu
          clear hmc hst hbU hgrow5 hown5 hu
          go_upto_region 14 with fail
          refine wp_at fun W6 hW6 => ?_
          have HU6 := Lib.hid (show W6.ownsRow u 63 1 (.slice (some ⟨u, 0, none⟩) i i) i ((unitsL i j).map F32) by subst hW6; exact HU5.out)
          have HB6 := Lib.hid (show Below u wj W6 by subst hW6; exact HB5.out)
          clear hW6 HU5 HB5 k1 k2
          have hu := HUE.out
          have HQ6 := Lib.hid (HQj.out.below HB6.out (by omega))
          have HK6 := Lib.hid (HKoj.out.below HB6.out (by omega))
          have HO6 := Lib.hid (owns_below HO.out HB6.out (by omega))
          have HKP6 := Lib.hid (HKj.out.below HB6.out (by omega))
          have HBW6 := Lib.hid (HBWj.out.trans (HB6.out.mono (by omega)))
          have hgu : ∀ bk, (Value.slice g z cg).ownBlock = some bk → bk < u := fun bk e => by rw [hu]; exact (owns_lt HO.out e).2
          have hu6 : u < W6.heap.size := (owns_lt HU6.out (k := u) rfl).2
          have hwo6 : wo.heap.size ≤ W6.heap.size := by omega
          have hww : w.heap.size ≤ wo.heap.size := by omega
          clear HO hu
          have hw6d : wo.heap.size ≤ W6.drew.heap.size := hwo6
          have hw6a : ∀ o, wo.heap.size ≤ (W6.drew.alloc o).heap.size := fun o => by simp; omega
          have hD : Below wo.heap.size W6 W6.drew := (Below.refl _ _).drew
          have hDA : ∀ o, Below wo.heap.size W6 (W6.drew.alloc o) := fun o => (Below.refl _ _).drew.alloc hwo6 o
          have hDQ : ∀ X, Below wo.heap.size W6 X → Below w.heap.size w X := fun X hb => HBW6.out.trans (hb.mono hww)
          have d0 := HK6.out.cell 0 rfl
          have d1 := HK6.out.cell 1 rfl
          have d2 := HK6.out.cell 2 rfl
          have d3 := HK6.out.cell 3 rfl
          have d0a : ∀ o, (W6.alloc o).cell? ⟨w.heap.size, 0, none⟩ = some (.int .i64 G) := fun o => (HK6.out.below ((Below.refl _ _).alloc hwo6 o) (by omega)).cell 0 rfl
          have d1a : ∀ o, (W6.alloc o).cell? ⟨w.heap.size, 1, none⟩ = some (.slice a1 L c1) := fun o => (HK6.out.below ((Below.refl _ _).alloc hwo6 o) (by omega)).cell 1 rfl
          have d2a : ∀ o, (W6.alloc o).cell? ⟨w.heap.size, 2, none⟩ = some (.slice (some ⟨pb, po, none⟩) i c2) := fun o => (HK6.out.below ((Below.refl _ _).alloc hwo6 o) (by omega)).cell 2 rfl
          have d3a : ∀ o, (W6.alloc o).cell? ⟨w.heap.size, 3, none⟩ = some (.slice a3 G c3) := fun o => (HK6.out.below ((Below.refl _ _).alloc hwo6 o) (by omega)).cell 3 rfl
          have q1a : ∀ o, (W6.alloc o).cell? ⟨q, 1, none⟩ = some (.slice g z cg) := fun o => (HQ6.out.below ((Below.refl _ _).alloc hwo6 o) hqo).cell 1 rfl
          have q1 : W6.cell? ⟨q, 1, none⟩ = some (.slice g z cg) := HQ6.out.cell 1 rfl
          have HUL := Lib.hid (unitsL_len i j)
          obtain ⟨un, hun⟩ : ∃ un, un = unitsL i j := ⟨_, rfl⟩
          rw [← hun] at HUL HU6 HE
          obtain ⟨tn, htn⟩ : ∃ tn, tn = tabN r j := ⟨_, rfl⟩
          rw [← htn] at HE HO6
          obtain ⟨tn1, htn1⟩ : ∃ tn1, tn1 = tabN r (j + 1) := ⟨_, rfl⟩
          have HT1 := Lib.hid htn1.symm
          rw [← htn1] at HE
          clear hun htn htn1
          have hzl : z + G + i + 1 ≤ 17 * (j + 1) := by omega
          have hz200 : z + G + i + 1 ≤ 200 := by omega
          go_region_law (first
              | (go_simp; go_at_call 168; refine (HRWj.out _ (by first | exact hDQ _ hD | exact hDQ _ (hDA _))).mono ?_; rintro e wn ⟨ru, rfl, hru, hb1⟩; have hs0 := hb1.size; have hs6 : W6.heap.size ≤ wn.heap.size := (by simp at hs0; omega); have hbn : Below wo.heap.size W6 wn := (by first | exact Below.trans hD (hb1.mono hw6d) | exact Below.trans (hDA _) (hb1.mono (hw6a _))); have q1n : wn.cell? ⟨q, 1, none⟩ = some (.slice g z cg) := (HQ6.out.below hbn hqo).cell 1 rfl; have hs1 : wo.heap.size ≤ wn.heap.size := Nat.le_trans hwo6 hs6; have q1na : ∀ o, (wn.alloc o).cell? ⟨q, 1, none⟩ = some (.slice g z cg) := fun o => (HQ6.out.below (hbn.alloc hs1 o) hqo).cell 1 rfl; have ho1 : wn.ownsRow wo.heap.size 63 1 (.slice g z cg) z (tn.map F32) := (by first | exact owns_below (owns_drew HO6.out) hb1 (Nat.le_refl _) | exact owns_below ((owns_drew HO6.out).alloc _) hb1 (Nat.le_refl _)); have hu1 : Slc wn (.slice (some ⟨u, 0, none⟩) i i) (un.map F32) := (by first | exact Slc.below (slc_drew (slc_of_owns HU6.out)) hb1 (Nat.le_refl _) | exact Slc.below (slc_alloc (slc_drew (slc_of_owns HU6.out)) _) hb1 (Nat.le_refl _)); (first | (have hbs : Slc wn (.slice (some ⟨W6.heap.size, 0, none⟩) 1 1) ([bd].map F32) := Slc.below (slcF_oneB W6.drew bd _ (by simp)) hb1 (Nat.le_refl _); have hs61 : W6.heap.size < wn.heap.size := (by have := hb1.size; simp at this; omega)) | skip))
              | (refine step_app_fltsL rfl (.tmp 50) (.tmp 53) (by rfl) wo.heap.size (.slice g z cg) z tn (by rfl) (by first | exact ho1 | exact ho1.alloc _) _ rw' (by rfl) (by first | exact hru | exact slc_alloc hru _) (z + G) (tn ++ rw') (by rw [hrl]) rfl (by omega) (by first | exact hs1 | (simp; omega)) ?_; intro g8 c8 w8 hown8 hbl8 hg8 hl8; have hbn8 : Below wo.heap.size W6 w8 := (by first | exact hbn.trans hbl8 | exact (hbn.alloc hs1 _).trans hbl8); have hs8 : wo.heap.size ≤ w8.heap.size := Nat.le_trans hwo6 hbn8.size; have hu8 : Slc w8 (.slice (some ⟨u, 0, none⟩) i i) (un.map F32) := slc_grown (by first | exact hu1 | exact slc_alloc hu1 _) hg8 (fun e => absurd (hgu _ e) (Nat.lt_irrefl u)); have hn8 : (Value.slice g8 (z + G) c8).ownBlock ≠ some u := (fun e => by rcases hl8 with h8 | h8; (rw [h8] at e; have := hgu _ e; omega); (rw [h8] at e; simp at e; omega)); (first | (have hbs8 : Slc w8 (.slice (some ⟨W6.heap.size, 0, none⟩) 1 1) ([bd].map F32) := slc_grown hbs hg8 (fun e => by have h9 : W6.heap.size < u := hgu _ e; omega); have hnb8 : (Value.slice g8 (z + G) c8).ownBlock ≠ some W6.heap.size := (fun e => by rcases hl8 with h8 | h8; (rw [h8] at e; have := hgu _ e; omega); (rw [h8] at e; simp at e; omega))) | (have hbs8 : Slc w8 (.slice (some ⟨wn.heap.size, 0, none⟩) 1 1) ([bd].map F32) := slc_grown (slcF_oneB wn bd _ rfl) hg8 (fun e => by have h9 : wn.heap.size < u := hgu _ e; omega); have hnb8 : (Value.slice g8 (z + G) c8).ownBlock ≠ some wn.heap.size := (fun e => by rcases hl8 with h8 | h8; (rw [h8] at e; have := hgu _ e; omega); (rw [h8] at e; simp at e))) | skip))
              | (refine step_app_fltsL rfl (.tmp 54) (.tmp 55) (by rfl) wo.heap.size (.slice g8 (z + G) c8) (z + G) (tn ++ rw') (by rfl) (by first | exact hown8 | exact hown8.alloc _) _ un (by rfl) (by first | exact hu8 | exact slc_alloc hu8 _) (z + G + i) (tn ++ rw' ++ un) (by rw [HUL.out]) rfl (by omega) (by first | exact hs8 | (simp; omega)) ?_; intro g9 c9 w9 hown9 hbl9 hg9 hl9; have hbn9 : Below wo.heap.size W6 w9 := (by first | exact hbn8.trans hbl9 | exact (hbn8.alloc hs8 _).trans hbl9); have hs9 : wo.heap.size ≤ w9.heap.size := Nat.le_trans hwo6 hbn9.size; (first | (have hbs9 : Slc w9 (.slice (some ⟨_, 0, none⟩) 1 1) ([bd].map F32) := slc_grown hbs8 hg9 hnb8) | (have hbs9 : Slc w9 (.slice (some ⟨w8.heap.size, 0, none⟩) 1 1) ([bd].map F32) := slc_grown (slcF_oneB w8 bd _ rfl) hg9 (fun e => absurd (owns_lt hown8 e).2 (Nat.lt_irrefl w8.heap.size))) | skip))
              | (refine step_app_fltsL rfl (.tmp 56) (.tmp 58) (by rfl) wo.heap.size (.slice g9 (z + G + i) c9) (z + G + i) (tn ++ rw' ++ un) (by rfl) (by first | exact hown9 | exact hown9.alloc _) _ [bd] (by rfl) (by first | exact hbs9 | exact slcF_oneB w9 bd _ rfl) (z + G + i + 1) tn1 (by simp) (by rw [HE.out]; simp) (by omega) (by first | exact hs9 | (simp; omega)) ?_; intro ga ca wa howna hbla hga _; have hbna : Below wo.heap.size W6 wa := (by first | exact hbn9.trans hbla | exact (hbn9.alloc hs9 _).trans hbla); have qa := (HQ6.out.below hbna hqo).cell 1 rfl; have sa := (HQ6.out.below hbna hqo).free 1)
              | fail)
          all_goals
            go_wp2_with fail
            go_roundw
            case rel =>
              refine ⟨j + 1, z + G + i + 1, ga, ca, by go_num, by omega, hzl, Lib.hid (by simpa using (HQ6.out.below hbna hqo).set 1 (.slice ga (z + G + i + 1) ca)), Lib.hid (by rw [HT1.out]; exact owns_kept howna (Kept.setCell (S := (· = q)) (Kept.refl _ _) (.inr rfl) _) (fun g hg => by have := (owns_lt howna hg).1; omega)), Lib.hid ((HKP6.out.below hbna (Nat.le_refl _)).setCell (.inr rfl) _)⟩
            case measure => simp [intOf]; omega
        · obtain rfl : j = i := by omega
          have d3 := HKoj.out.cell 3 rfl
          clear d2
          go_wp2_with fail
          go_loopw [65] (fun iv wr => ∃ (k : Nat) (g : Option Addr) (cg : Nat), iv = .int .i64 k ∧ k ≤ G ∧ Hid (Blk wr q 136 #[.int .i64 G, .slice g (z + k) cg, .slice b j cc]) ∧ Hid (wr.ownsRow wo.heap.size 63 1 (.slice g (z + k) cg) (z + k) ((tabN r j ++ tabG r k).map F32)) ∧ Hid (Kept (· = q) wo wr)) (fun iv _ => G + 1 - (intOf iv).toNat)
          case atStart => exact ⟨0, g, cg, rfl, Nat.zero_le _, HQj, Lib.hid (by have := HO.out; simpa [tabG] using this), HKj⟩
          case round =>
            obtain ⟨k, g, cg, rfl, hk, HQk, HOk, HKk⟩ := hrel
            obtain ⟨wk, rfl⟩ : ∃ wk, wk = wr := ⟨wr, rfl⟩
            have HKok := Lib.hid (HKo.out.kept HKk.out (by omega))
            have hzk := HKk.out.size
            have HBWk := Lib.hid (HBW.out.trans (HKk.out.toBelow HBW.out.size (by intro k h1 h2; omega)))
            by_cases hlt : k < G
            · have hltI : (k : Int) < (G : Int) := by omega
              obtain ⟨pb, po, rfl, _, hc⟩ := (HP3.out.up HBWk.out (Nat.le_refl _)).at (i := k) (by rw [← HGE.out]; exact hlt)
              have hE := HNG.out k hlt
              obtain ⟨y, hy⟩ : ∃ y, y = r.gains.getD k 0 := ⟨_, rfl⟩
              rw [← hy] at hc hE
              obtain ⟨tn, htn⟩ : ∃ tn, tn = tabN r j ++ tabG r k := ⟨_, rfl⟩
              have HPE := Lib.hid (show tabN r j ++ tabG r (k + 1) = tn ++ [negF y] by rw [hE, htn, List.append_assoc])
              rw [← htn] at HOk
              clear hy hE htn
              have q1 := HQk.out.cell 1 rfl
              have hqk : q < wk.heap.size := HQk.out.lt
              have hzw : wo.heap.size ≤ wk.heap.size := by omega
              go_wp2_with (at_builtin; refine app_flts rfl _ _ rfl wo.heap.size (.slice g (z + k) cg) (z + k) tn rfl (HOk.out.alloc _) _ [negF y] rfl (slcF_oneB _ _ _ (by simp)) (z + k + 1) (tabN r j ++ tabG r (k + 1)) (by simp) HPE.out (by omega) (by simp; omega) ?_; intro b3 c3' w3 hown3 hbl3 _ _; have HO3 := Lib.hid hown3; have HQ4 := Lib.hid ((HQk.out.alloc (.cells #[.float .f32 (negF y)] 63)).below hbl3 hqo); have HKP4 := Lib.hid (HKk.out.below (((Below.refl _ _).alloc hzw _).trans hbl3) (Nat.le_refl _)); have s1 := HQ4.out.free 1; have t1 := HQ4.out.cell 1 rfl; clear hown3 hbl3)
              go_roundw
              case rel =>
                refine ⟨k + 1, b3, c3', by go_num, by omega, Lib.hid (by simpa [Nat.add_assoc] using HQ4.out.set 1 (.slice b3 (z + k + 1) c3')), Lib.hid (owns_kept HO3.out (Kept.setCell (S := (· = q)) (Kept.refl _ _) (.inr rfl) _) (fun g hg => by have := (owns_lt HO3.out hg).1; omega)), Lib.hid (HKP4.out.setCell (.inr rfl) _)⟩
              case measure => simp [intOf]; omega
            · obtain rfl : k = G := by omega
              have q1 := HQk.out.cell 1 rfl
              have d2 := HKok.out.cell 2 rfl
              have hzw : wo.heap.size ≤ wk.heap.size := hzk
              have hTB := HTAB.out
              have HTB := Lib.hid hTB
              obtain ⟨tn, htn⟩ : ∃ tn, tn = tabN r j ++ tabG r k := ⟨_, rfl⟩
              rw [← htn] at HOk HTB
              clear hTB htn HTAB
              go_upto_region 22 with (at_builtin; refine app_zerosF rfl _ _ rfl wo.heap.size (.slice g (z + k) cg) (z + k) tn rfl HOk.out (j + 1) rfl (by omega) (z + k + (j + 1)) (tn ++ List.replicate (j + 1) 0) rfl rfl (by omega) hzw ?_; intro gz cz wz hownz hblz _; have HOZ := Lib.hid hownz; have HQZ := Lib.hid (HQk.out.below hblz hqo); have HKZ := Lib.hid (HKk.out.below hblz (Nat.le_refl _)); have HRZ := Lib.hid ((HRP.out.kept HKk.out (by omega)).below hblz (by omega)); have s1 := HQZ.out.free 1; have t1 := HQZ.out.cell 1 rfl; clear hownz hblz)
              refine wp_at fun WA hWA => ?_
              have HQA := Lib.hid (show Blk WA q 136 #[.int .i64 k, .slice gz (z + k + (j + 1)) cz, .slice b j cc] by subst hWA; simpa using HQZ.out.set 1 (.slice gz (z + k + (j + 1)) cz))
              have HKA := Lib.hid (show Kept (· = q) wo WA by subst hWA; exact HKZ.out.setCell (.inr rfl) _)
              have HRA := Lib.hid (show Blk WA (w.heap.size + 1) 136 #[.int .i64 0, .slice none 0 0, .slice none 0 0] by subst hWA; exact HRZ.out.other (by simp; omega) _)
              have HOA := Lib.hid (show WA.ownsRow wo.heap.size 63 1 (.slice gz (z + k + (j + 1)) cz) (z + k + (j + 1)) ((tn ++ List.replicate (j + 1) 0).map F32) by subst hWA; exact owns_kept HOZ.out (Kept.setCell (S := (· = q)) (Kept.refl _ _) (.inr rfl) _) (fun g hg => by have := (owns_lt HOZ.out hg).1; omega))
              clear hWA s1 t1 q1
              have qa0 := HQA.out.cell 0 rfl
              have qa1 := HQA.out.cell 1 rfl
              have qa2 := HQA.out.cell 2 rfl
              have r0 := HRA.out.cell 0 rfl
              have r1 := HRA.out.cell 1 rfl
              have r2 := HRA.out.cell 2 rfl
              have s0 := HRA.out.free 0
              have s1 := HRA.out.free 1
              have s2 := HRA.out.free 2
              go_wp2_with fail
              refine bodyPost_ret (v := .tuple #[.agg #[.int .i64 k, .slice gz (z + k + (j + 1)) cz, .slice b j cc], .bool true]) (by simp [results, Try.results146, go_sem, *]) rfl ?_
              have FIN : ∀ Wf, Kept (· = w.heap.size + 1) WA Wf → ∃ tv, (Ending.returned (.tuple #[.agg #[.int .i64 k, .slice gz (z + k + (j + 1)) cz, .slice b j cc], .bool true]) : Ending) = .returned (.tuple #[tv, .bool true]) ∧ (∀ Wg, Kept (· < w.heap.size) Wf Wg → RdTb Wg tv (tableT r)) ∧ Below w.heap.size w Wf := fun Wf hk => by
                have hkf : Kept (fun x => x = q ∨ x = w.heap.size + 1) wo Wf := (HKA.out.mono (fun _ _ h => Or.inl h)).step hk (fun _ _ h => Or.inr h)
                refine ⟨_, rfl, fun Wg hg => ?_, HBW.out.trans (hkf.toBelow HBW.out.size (by intro x h1 h2; omega))⟩
                have h1 : RdF Wg (.slice gz (z + k + (j + 1)) cz) (tn ++ List.replicate (j + 1) 0) := slc_of_owns (owns_kept (owns_kept HOA.out hk (fun g hg => by have := (owns_lt HOA.out hg).1; omega)) hg (fun g hg => by have := (owns_lt HOA.out hg).1; omega))
                have h2 : RdI Wg (.slice b j cc) (tabB r j) := slc_of_owns (owns_kept (owns_kept HBI.out hkf (fun g hg => by have := owns_lt HBI.out hg; omega)) hg (fun g hg => by have := (owns_lt HBI.out hg).1; omega))
                rw [HTB.out]
                exact ⟨_, _, rfl, h1, h2⟩
              refine FIN _ ?_
              repeat' first | exact Kept.refl _ _ | refine Kept.setCell ?_ (.inr (by simp)) _

end Go.Proofs.Ytkfiepiipigcmaa

namespace Go.Proofs.Ytkfiepiipigcmaa
open Go.RowKit

/-! ### products and differences, numbers or NaNs that the tape names -/
theorem run_mul_none {P : Program} (t : TypeId) (x y : Nat) (h : Ieee.single.mul x y = none) (w : World) :
    (binOp .mul t (.float .f32 x) (.float .f32 y)).run P w = .ok (.float .f32 (tape32 (.nanBits .f32 x y) w)) w.drew := by
  have h' : FloatKind.f32.format.mul x y = none := h
  simp [binOp, Op.floatArith, h', tape32, Question.forced, Result.andThen]
def mulV (x y : Nat) (w : World) : Nat := match Ieee.single.mul x y with
  | some r => r
  | none => tape32 (.nanBits .f32 x y) w
def mulD (x y : Nat) : Nat := match Ieee.single.mul x y with
  | some _ => 0
  | none => 1
theorem run_mul_all {P : Program} (t : TypeId) (x y : Nat) (w : World) : (binOp .mul t (.float .f32 x) (.float .f32 y)).run P w = .ok (.float .f32 (mulV x y w)) (w.drewN (mulD x y)) := by
  unfold mulV mulD
  cases h : Ieee.single.mul x y with
  | some r => exact run_mul_some t x y r h w
  | none => exact run_mul_none t x y h w
theorem mt_rest (a f o : Nat) (w w' : World) : Mt ((Ieee.single.mul f o).bind fun q => Ieee.single.sub a q) (subV a (mulV f o w) w') := by
  unfold mulV
  cases h : Ieee.single.mul f o with
  | some q =>
    simp only [Option.bind_some]
    unfold subV
    cases h2 : Ieee.single.sub a q with
    | some r => exact Mt.some' r
    | none => exact ⟨fun _ h => (by cases h), fun _ => tape32_nan _ _ _⟩
  | none =>
    simp only [Option.bind_none]
    unfold subV
    rw [sub_nanR (tape32_nan _ _ _)]
    exact ⟨fun _ h => (by cases h), fun _ => tape32_nan _ _ _⟩

/-! ### the cells of a list -/
structure Cnt (F : Nat → Option Nat) (M : Nat) (cs : List Nat) : Prop where
  len : cs.length = M
  at' : ∀ x, x < M → Mt (F x) (cs.getD x 0)
theorem Cnt.set {F F' : Nat → Option Nat} {M : Nat} {cs : List Nat} (h : Cnt F M cs) {x b : Nat} (hx : x < M) (hb : Mt (F' x) b) (hn : ∀ y, y < M → y ≠ x → F' y = F y) : Cnt F' M (cs.set x b) := by
  refine ⟨by rw [List.length_set]; exact h.len, fun y hy => ?_⟩
  rw [List.getD_eq_getElem?_getD, List.getElem?_set]
  by_cases e : x = y
  · subst e
    rw [if_pos rfl, if_pos (by rw [h.len]; exact hx)]
    exact hb
  · rw [if_neg e, ← List.getD_eq_getElem?_getD, hn y hy (fun h => e h.symm)]
    exact h.at' y hy
theorem Cnt.eq {F : Nat → Option Nat} {M : Nat} {cs : List Nat} (h : Cnt F M cs) {x v : Nat} (hx : x < M) (hv : F x = some v) : cs.getD x 0 = v := by
  have := h.at' x hx
  rw [hv] at this
  exact this.of_some
theorem Cnt.mono {F F' : Nat → Option Nat} {M : Nat} {cs : List Nat} (h : Cnt F M cs) (he : ∀ y, y < M → F' y = F y) : Cnt F' M cs := ⟨h.len, fun y hy => by rw [he y hy]; exact h.at' y hy⟩
theorem dm_div {W i c : Nat} (hc : c < W) : (i * W + c) / W = i := by
  rw [Nat.mul_comm, Nat.mul_add_div (by omega), Nat.div_eq_of_lt hc]
  omega
theorem dm_mod {W i c : Nat} (hc : c < W) : (i * W + c) % W = c := by
  rw [Nat.mul_comm, Nat.mul_add_mod, Nat.mod_eq_of_lt hc]
theorem dm_ne {W i c y : Nat} (hy : y ≠ i * W + c) : y / W ≠ i ∨ y % W ≠ c := by
  by_cases e : y / W = i
  · right
    intro e2
    have := Nat.div_add_mod y W
    rw [e, e2, Nat.mul_comm] at this
    exact hy this.symm
  · exact .inl e

section
variable (t : TabD) (row col : Nat)
def F0 (x : Nat) : Option Nat := some (t.nums.getD x 0)
def FA (k x : Nat) : Option Nat := if x / wdT t = row ∧ x % wdT t < k then some (divV (atT t row (x % wdT t)) (atT t row col)) else F0 t x
def FB (i x : Nat) : Option Nat := if x / wdT t = row then some (ownV t row col (x % wdT t)) else if x / wdT t < i then othO t row col (x / wdT t) (x % wdT t) else F0 t x
def rawO (i c : Nat) : Option Nat := (Ieee.single.mul (atT t i col) (ownV t row col c)).bind fun q => Ieee.single.sub (atT t i c) q
def FC (i k x : Nat) : Option Nat := if x / wdT t = i ∧ x % wdT t < k then rawO t row col i (x % wdT t) else FB t row col i x
def FE (x : Nat) : Option Nat := cellO t row col (x / wdT t) (x % wdT t)
end
section
variable {t : TabD} {row col : Nat} {M : Nat} {cs : List Nat}
theorem F0_at {i c : Nat} : F0 t (i * wdT t + c) = some (atT t i c) := rfl
theorem FA_zero (h : Cnt (F0 t) M cs) : Cnt (FA t row col 0) M cs := h.mono fun y _ => by unfold FA; rw [if_neg (fun h => absurd h.2 (Nat.not_lt_zero _))]
theorem FA_read {k : Nat} (hk : k < wdT t) : FA t row col k (row * wdT t + k) = some (atT t row k) := by
  unfold FA
  rw [dm_div hk, dm_mod hk, if_neg (fun h => absurd h.2 (Nat.lt_irrefl _))]
  rfl
theorem FA_step {k : Nat} (h : Cnt (FA t row col k) M cs) (hk : k < wdT t) (hx : row * wdT t + k < M) : Cnt (FA t row col (k + 1)) M (cs.set (row * wdT t + k) (divV (atT t row k) (atT t row col))) := by
  refine h.set hx ?_ fun y _ hne => ?_
  · unfold FA
    rw [dm_div hk, dm_mod hk, if_pos ⟨rfl, by omega⟩]
    exact Mt.some' _
  · unfold FA
    rcases dm_ne hne with e | e
    · rw [if_neg (fun h => e h.1), if_neg (fun h => e h.1)]
    · by_cases e2 : y / wdT t = row ∧ y % wdT t < k
      · rw [if_pos e2, if_pos ⟨e2.1, by omega⟩]
      · rw [if_neg e2, if_neg (fun h => e2 ⟨h.1, by omega⟩)]
theorem FB_zero (hw : 0 < wdT t) (h : Cnt (FA t row col (wdT t)) M cs) (hc : col < wdT t) (hx : row * wdT t + col < M) : Cnt (FB t row col 0) M (cs.set (row * wdT t + col) oneF) := by
  refine h.set hx ?_ fun y _ hne => ?_
  · unfold FB ownV
    rw [dm_div hc, dm_mod hc, if_pos rfl, if_pos rfl]
    exact Mt.some' _
  · unfold FB FA ownV
    by_cases e : y / wdT t = row
    · have e2 : y % wdT t ≠ col := by
        rcases dm_ne hne with c | c
        · exact absurd e c
        · exact c
      rw [if_pos e, if_neg e2, if_pos ⟨e, Nat.mod_lt _ hw⟩]
    · rw [if_neg e, if_neg (Nat.not_lt_zero _), if_neg (fun h => e h.1)]
theorem FB_skip (h : Cnt (FB t row col row) M cs) : Cnt (FB t row col (row + 1)) M cs := h.mono fun y _ => by
  unfold FB
  by_cases e : y / wdT t = row
  · rw [if_pos e, if_pos e]
  · rw [if_neg e, if_neg e]
    by_cases c : y / wdT t < row
    · rw [if_pos c, if_pos (by omega)]
    · rw [if_neg c, if_neg (by omega)]
theorem FC_zero {i : Nat} (h : Cnt (FB t row col i) M cs) : Cnt (FC t row col i 0) M cs := h.mono fun y _ => by unfold FC; rw [if_neg (fun h => absurd h.2 (Nat.not_lt_zero _))]
theorem FC_read {i k : Nat} (hk : k < wdT t) (hi : i ≠ row) : FC t row col i k (i * wdT t + k) = some (atT t i k) := by
  unfold FC FB
  rw [dm_div hk, dm_mod hk, if_neg (fun h => absurd h.2 (Nat.lt_irrefl _)), if_neg hi, if_neg (Nat.lt_irrefl _)]
  rfl
theorem FB_read {i k : Nat} (hk : k < wdT t) (hi : i ≠ row) : FB t row col i (i * wdT t + k) = some (atT t i k) := by
  unfold FB
  rw [dm_div hk, dm_mod hk, if_neg hi, if_neg (Nat.lt_irrefl _)]
  rfl
theorem FC_own {i k c : Nat} (hc : c < wdT t) (hi : i ≠ row) : FC t row col i k (row * wdT t + c) = some (ownV t row col c) := by
  unfold FC FB
  rw [dm_div hc, dm_mod hc, if_neg (fun h => hi h.1.symm), if_pos rfl]
theorem FC_step {i k b : Nat} (h : Cnt (FC t row col i k) M cs) (hk : k < wdT t) (hx : i * wdT t + k < M) (hb : Mt (rawO t row col i k) b) : Cnt (FC t row col i (k + 1)) M (cs.set (i * wdT t + k) b) := by
  refine h.set hx ?_ fun y _ hne => ?_
  · unfold FC
    rw [dm_div hk, dm_mod hk, if_pos ⟨rfl, by omega⟩]
    exact hb
  · unfold FC
    rcases dm_ne hne with e | e
    · rw [if_neg (fun h => e h.1), if_neg (fun h => e h.1)]
    · by_cases e2 : y / wdT t = i ∧ y % wdT t < k
      · rw [if_pos e2, if_pos ⟨e2.1, by omega⟩]
      · rw [if_neg e2, if_neg (fun h => e2 ⟨h.1, by omega⟩)]
theorem FB_next {i : Nat} (hw : 0 < wdT t) (h : Cnt (FC t row col i (wdT t)) M cs) (hc : col < wdT t) (hx : i * wdT t + col < M) (hi : i ≠ row) : Cnt (FB t row col (i + 1)) M (cs.set (i * wdT t + col) 0) := by
  refine h.set hx ?_ fun y _ hne => ?_
  · unfold FB othO
    rw [dm_div hc, dm_mod hc, if_neg hi, if_pos (by omega), if_pos rfl]
    exact Mt.some' _
  · unfold FB FC
    by_cases e : y / wdT t = i
    · have e2 : y % wdT t ≠ col := by
        rcases dm_ne hne with c | c
        · exact absurd e c
        · exact c
      rw [if_pos (⟨e, Nat.mod_lt _ hw⟩ : y / wdT t = i ∧ y % wdT t < wdT t), e, if_neg hi, if_pos (by omega)]
      unfold othO rawO
      rw [if_neg e2]
    · rw [if_neg (fun h : y / wdT t = i ∧ _ => e h.1)]
      unfold FB
      by_cases r : y / wdT t = row
      · rw [if_pos r, if_pos r]
      · rw [if_neg r, if_neg r]
        by_cases c : y / wdT t < i
        · rw [if_pos c, if_pos (by omega)]
        · rw [if_neg c, if_neg (by omega)]
theorem FE_end (hd : DimT t) (h : Cnt (FB t row col (t.basis.length + 1)) t.nums.length cs) : Cnt (FE t row col) t.nums.length cs := h.mono fun y hy => by
  have hw := hd.w17
  have hlt : y / wdT t < t.basis.length + 1 := by
    rw [hd.nl] at hy
    exact Nat.div_lt_of_lt_mul hy
  unfold FE FB cellO
  by_cases r : y / wdT t = row
  · rw [if_pos r, if_pos r]
  · rw [if_neg r, if_neg r, if_pos hlt]
theorem FE_fin (h : Cnt (FE t row col) t.nums.length cs) : allFin cs = (pivO t row col).all finO := by
  rw [Bool.eq_iff_iff, List.all_eq_true]
  unfold allFin
  rw [List.all_eq_true]
  constructor
  · intro h1 o ho
    unfold pivO at ho
    rw [List.mem_map] at ho
    obtain ⟨x, hx, rfl⟩ := ho
    have hx := List.mem_range.1 hx
    have h2 := (h.at' x hx).fin
    have h3 : cs.getD x 0 ∈ cs := by
      rw [List.getD_eq_getElem?_getD, List.getElem?_eq_getElem (by rw [h.len]; exact hx)]
      exact List.getElem_mem _
    rw [h1 _ h3] at h2
    exact h2.symm
  · intro h1 b hb
    obtain ⟨x, hx, rfl⟩ := List.getElem_of_mem hb
    have hx2 : x < t.nums.length := by rw [← h.len]; exact hx
    have h2 := (h.at' x hx2).fin
    rw [List.getD_eq_getElem?_getD, List.getElem?_eq_getElem hx] at h2
    simp only [Option.getD_some] at h2
    rw [h2]
    exact h1 _ (by unfold pivO; rw [List.mem_map]; exact ⟨x, List.mem_range.2 hx2, rfl⟩)
theorem FE_is (h : Cnt (FE t row col) t.nums.length cs) (hf : (pivO t row col).all finO = true) : cs = (pivT t row col).nums := by
  rw [List.all_eq_true] at hf
  refine List.ext_getElem? fun x => ?_
  show cs[x]? = ((pivO t row col).map _)[x]?
  by_cases hx : x < t.nums.length
  · have h1 := h.at' x hx
    have h2 := hf (FE t row col x) (by unfold pivO; rw [List.mem_map]; exact ⟨x, List.mem_range.2 hx, rfl⟩)
    unfold pivO
    rw [List.getElem?_map, List.getElem?_map, List.getElem?_range hx]
    have hxl : x < cs.length := by rw [h.len]; exact hx
    rw [List.getElem?_eq_getElem hxl]
    rw [List.getD_eq_getElem?_getD, List.getElem?_eq_getElem hxl] at h1
    simp only [Option.getD_some] at h1
    simp only [Option.map_some]
    show some cs[x] = some ((FE t row col x).getD 0)
    cases ho : FE t row col x with
    | none => rw [ho] at h2; cases h2
    | some v => rw [ho] at h1; rw [h1.of_some]; rfl
  · rw [List.getElem?_eq_none (by rw [h.len]; omega), List.getElem?_eq_none (by rw [List.length_map, pivO_len]; omega)]
end

end Go.Proofs.Ytkfiepiipigcmaa
