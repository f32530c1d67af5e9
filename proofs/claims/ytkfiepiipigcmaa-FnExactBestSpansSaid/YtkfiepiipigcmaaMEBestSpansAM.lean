/-
  FnExactBestSpans: texts joined: BspS, MarkP, OpenP, LFnExactBestSpans.
-/
import Derived.Deep.Strs
import Derived.Deep.RegionHeld3
import Derived.Deep.Cut
import Derived.Test.YtkfiepiipigcmaaMEBestSpansAA
import Derived.Test.YtkfiepiipigcmaaMEBestSpansAD
import Derived.Test.YtkfiepiipigcmaaMEBestSpansAH
import Derived.Test.YtkfiepiipigcmaaMEBestSpansAL
namespace Go.Proofs.Ytkfiepiipigcmaa
open Go.RowKit Go.Sort

theorem l00Max_any (x y : Int) (w : World) : Calls Try.prog 58 #[.int .i64 x, .int .i64 y] w fun e w' => e = .returned (.int .i64 (max x y)) ∧ w = w' := by
  by_cases h : y < x
  all_goals
    go_enter Try.func58, Try.ntmps58
    go_wp2_with fail
    go_ret
    exact ⟨congrArg (fun z => Ending.returned (Value.int .i64 z)) (by omega), rfl⟩

set_option maxHeartbeats 1000000 in
theorem l06Before_any (ps : List SpanD) (L : List Nat) (v : Value) (ua : Option Addr) (n uc k : Nat) (t : Int) (w : World) (hP : RdP w v ps) (hn : L.length = n) (hL : RdI w (.slice ua n uc) (idxs L)) (hk : k ≤ n) (hk2 : n ≤ 1000) (hlt : ∀ i, i < n → L.getD i 0 < ps.length) :
    Calls Try.prog 57 #[v, .slice ua n uc, .int .i64 k, .int .i64 t] w fun e w' => e = .returned (.int .i64 (befK (toK ps) L t k)) ∧ w = w' := by
  obtain ⟨a, c, rfl⟩ := hP.shape
  have HP := Lib.hid hP
  have HL := Lib.hid hL
  have HLT := Lib.hid hlt
  have HN := Lib.hid hn
  have HIL := Lib.hid (show (idxs L).length = n by rw [idxs_len]; exact hn)
  have HLI := Lib.hid (show ∀ k, k < n → (idxs L).getD k 0 = (L.getD k 0 : Int) from fun k hk => by
    have hk2 : k < L.length := by omega
    unfold idxs
    rw [List.getD_eq_getElem?_getD, List.getElem?_map, List.getD_eq_getElem?_getD, List.getElem?_eq_getElem hk2]
    rfl)
  have HBL := Lib.hid (befK_le (toK ps) L t)
  clear hP hL hlt hn
  go_enter Try.func57, Try.ntmps57
  go_wp2_with fail
  go_loopw [9, 10] (fun cv iv wr => ∃ i : Nat, iv = .int .i64 i ∧ i ≤ k ∧ cv = .int .i64 (befK (toK ps) L t i) ∧ wr = w) (fun _ iv _ => k + 1 - (intOf iv).toNat)
  case atStart => exact ⟨0, rfl, Nat.zero_le _, rfl, rfl⟩
  case round =>
    obtain ⟨i, rfl, hi, rfl, rfl⟩ := hrel
    by_cases hlt : i < k
    · have hltI : (i : Int) < (k : Int) := by omega
      have hin : (i : Int) < (n : Int) := by omega
      have hil : i < (idxs L).length := by rw [HIL.out]; omega
      obtain ⟨ub, uo, rfl, _, hx⟩ := HL.out.at hil
      rw [HLI.out i (by omega)] at hx
      obtain ⟨x, hxe⟩ : ∃ x, x = L.getD i 0 := ⟨_, rfl⟩
      have hxn : x < ps.length := by rw [hxe]; exact HLT.out i (by omega)
      have hxI : (x : Int) < (ps.length : Int) := by omega
      rw [← hxe] at hx
      obtain ⟨pb, po, rfl, _, _, d1, _⟩ := HP.out.at hxn
      have ht0 : toK ps x = (ps.getD x P0).stop := by unfold toK; rw [Nat.mod_eq_of_lt hxn]
      rw [← ht0] at d1
      have hb := HBL.out i
      obtain ⟨b, hbe⟩ : ∃ b, b = befK (toK ps) L t i := ⟨_, rfl⟩
      obtain ⟨y, hy⟩ : ∃ y, y = toK ps x := ⟨_, rfl⟩
      have HS := Lib.hid (show befK (toK ps) L t (i + 1) = b + if y ≤ t then 1 else 0 by rw [hbe, hy, hxe]; rfl)
      rw [← hbe] at hb ⊢
      rw [← hy] at d1
      clear hbe hy ht0 hxe
      by_cases c : y ≤ t
      · have HS2 := Lib.hid (show befK (toK ps) L t (i + 1) = b + 1 by rw [HS.out, if_pos c])
        go_wp2_with fail
        go_roundw
        case rel => exact ⟨i + 1, by go_num, by omega, by rw [HS2.out]; go_num, trivial⟩
        case measure => simp [intOf]; omega
      · have HS2 := Lib.hid (show befK (toK ps) L t (i + 1) = b by rw [HS.out, if_neg c]; rfl)
        go_wp2_with fail
        go_roundw
        case rel => exact ⟨i + 1, by go_num, by omega, by rw [HS2.out], trivial⟩
        case measure => simp [intOf]; omega
    · obtain rfl : i = k := by omega
      go_wp2_with fail
      go_ret
      exact ⟨rfl, rfl⟩

set_option maxHeartbeats 4000000 in
set_option maxRecDepth 100000 in
theorem bestSpansS_any (v : Value) (ps : List SpanD) (w : World) (h : RdP w v ps) :
    Calls Try.prog 18 #[v] w fun e w' => ∃ v', e = .returned (.tuple #[v', .int .i64 (bspG ps), .bool (areSpansB ps)]) ∧ OwnI w.heap.size w'.heap.size w' v' (bspL ps) ∧ Below w.heap.size w w' := by
  have HA := Lib.hid (l06Spans_any v ps w h)
  obtain ⟨q, hq⟩ : ∃ q, areSpansB ps = q := ⟨_, rfl⟩
  rw [hq] at HA ⊢
  have HQ := Lib.hid hq
  clear hq
  obtain ⟨a, c, rfl⟩ := h.shape
  obtain ⟨i0, hi, hz0, hz1, hz2⟩ := info_parts Try.infoBool
  have HR := Lib.hid h
  clear h
  go_enter Try.func18, Try.ntmps18
  cases q
  · go_wp2_with (go_at_call 50; refine HA.out.mono ?_; rintro e w1 ⟨rfl, hb⟩)
    go_ret3
    refine ⟨.slice none 0 0, ?_, ?_, hb⟩
    · rw [show bspG ps = 0 by unfold bspG; rw [HQ.out]; rfl]; rfl
    rw [show bspL ps = [] by unfold bspL; rw [HQ.out]; rfl]
    exact ⟨World.ownsRow_nil _ _ _ _, by intro g hg; cases hg⟩
  have hl : 1 ≤ ps.length ∧ ps.length ≤ 64 := by
    have := HQ.out
    unfold areSpansB at this
    rw [Bool.and_eq_true, inB_iff] at this
    omega
  have HBT := Lib.hid (fun W (hb : Below w.heap.size w W) => l06ByTo_any ps _ W (HR.out.up hb (Nat.le_refl _)) (by omega))
  go_upto_region 3 with (go_at_call 50; refine HA.out.mono ?_; rintro e w1 ⟨rfl, hb⟩)
  have HB1 := Lib.hid hb
  clear hb HA
  go_upto_region 4 with (go_at_call 51; refine (HBT.out _ HB1.out).mono ?_; rintro e w2 ⟨u, rfl, hu, hb⟩; obtain ⟨ua, uc, rfl⟩ := hu.rd.shape)
  obtain ⟨n, hn⟩ : ∃ n, n = ps.length := ⟨_, rfl⟩
  obtain ⟨L, hL⟩ : ∃ L, L = ordL (toK ps) ps.length := ⟨_, rfl⟩
  obtain ⟨st, hst⟩ : ∃ st, st = stK ps := ⟨_, rfl⟩
  obtain ⟨en, hen⟩ : ∃ en, en = toK ps := ⟨_, rfl⟩
  obtain ⟨ga, hga⟩ : ∃ ga, ga = gaK ps := ⟨_, rfl⟩
  have HLEN := Lib.hid (show L.length = n by rw [hL, ordL_len, hn])
  have HLT := Lib.hid (show ∀ k, k < n → L.getD k 0 < n from fun k hk => by
    rw [hL, hn]
    rw [hn] at hk
    rw [List.getD_eq_getElem?_getD, List.getElem?_eq_getElem (by rw [ordL_len]; exact hk)]
    exact ordL_lt _ _ _ (List.getElem_mem _))
  have HGA := Lib.hid (show ∀ x, 0 ≤ ga x ∧ ga x ≤ 1000 from fun x => by rw [hga]; exact gaK_rng HQ.out x)
  have HLI := Lib.hid (show ∀ k, k < n → (idxs L).getD k 0 = (L.getD k 0 : Int) from fun k hk => by
    have hk2 : k < L.length := by rw [HLEN.out]; exact hk
    unfold idxs
    rw [List.getD_eq_getElem?_getD, List.getElem?_map, List.getD_eq_getElem?_getD, List.getElem?_eq_getElem hk2]
    rfl)
  have HCELL := Lib.hid (show ∀ W, Below w.heap.size w W → ∀ x, x < n → ∃ b off, a = some ⟨b, off, none⟩ ∧ W.cell? ⟨b, off + x * 3, none⟩ = some (.int .i64 (st x)) ∧ W.cell? ⟨b, off + x * 3 + 1, none⟩ = some (.int .i64 (en x)) ∧ W.cell? ⟨b, off + x * 3 + 2, none⟩ = some (.int .i64 (ga x)) from fun W hW x hx => by
    rw [hn] at hx
    obtain ⟨b, off, e, _, d0, d1, d2⟩ := (HR.out.up hW (Nat.le_refl _)).at hx
    refine ⟨b, off, e, ?_, ?_, ?_⟩
    · rw [hst]; unfold stK; rw [Nat.mod_eq_of_lt hx]; exact d0
    · rw [hen]; unfold toK; rw [Nat.mod_eq_of_lt hx]; exact d1
    · rw [hga]; unfold gaK; rw [Nat.mod_eq_of_lt hx]; exact d2)
  have HTS := Lib.hid (show bspT ps = tkL st en ga L n by rw [hst, hen, hga, hL, hn]; rfl)
  have HGS := Lib.hid (show bspG ps = sumV st en ga L n by unfold bspG; rw [HQ.out, hst, hen, hga, hL, hn]; rfl)
  have HML := Lib.hid (show bspL ps = idxs (setL n (bspT ps)) by unfold bspL; rw [HQ.out, hn]; rfl)
  have HTL := Lib.hid (show ∀ x ∈ bspT ps, x < n by rw [hn]; exact bspT_lt ps)
  have HIL := Lib.hid (show (idxs L).length = n by rw [idxs_len]; exact HLEN.out)
  rw [show idxs (ordL (toK ps) ps.length) = idxs L by rw [hL]] at hu
  have HBF := Lib.hid (show ∀ W, Below w2.heap.size w2 W → ∀ (k : Nat) (t : Int), k ≤ n → Calls Try.prog 57 #[.slice a n c, .slice ua n uc, .int .i64 k, .int .i64 t] W fun e w' => e = .returned (.int .i64 (befK en L t k)) ∧ W = w' from fun W hW k t hk => by
    have h1 := l06Before_any ps L (.slice a ps.length c) ua n uc k t W (HR.out.up ((HB1.out.trans (hb.mono HB1.out.size)).trans (hW.mono (HB1.out.trans (hb.mono HB1.out.size)).size)) (Nat.le_refl _)) HLEN.out (by
      have h2 := hu.rd.up hW (Nat.le_refl _)
      rw [HIL.out] at h2
      exact h2) hk (by omega) (by rw [← hn]; exact HLT.out)
    rw [← hn, ← hen] at h1
    exact h1)
  rw [← hL]
  rw [← hn] at HR ⊢
  rw [HIL.out] at hu
  rw [HIL.out]
  have hn64 : n ≤ 64 := by omega
  have hn1 : 1 ≤ n := by omega
  clear hL hst hen hga hn hl
  have HU := Lib.hid (show RdI w2 (.slice ua n uc) (idxs L) from hu.rd)
  have HB2 := Lib.hid (HB1.out.trans (hb.mono HB1.out.size))
  have hz2' := HB2.out.size
  clear hu hb HBT HB1
  go_upto_region 5 with fail
  go_wp2_with fail
  go_loopw [6, 7] (fun gv iv wr => ∃ (k : Nat) (gb : Option Addr) (gc : Nat), iv = .int .i64 k ∧ k ≤ n ∧ gv = .slice gb (k + 1) gc ∧ Hid (wr.ownsRow w2.heap.size 2 1 (.slice gb (k + 1) gc) (k + 1) ((sumK st en ga L k).map I64)) ∧ Hid (Below w2.heap.size w2 wr)) (fun _ iv _ => n + 1 - (intOf iv).toNat)
  case atStart => exact ⟨0, _, 1, rfl, Nat.zero_le _, rfl, Lib.hid (ownsI_one w2 0 _ (by simp)), Lib.hid ((Below.refl _ _).alloc (Nat.le_refl _) _)⟩
  case round =>
    obtain ⟨k, gb, gc, rfl, hk, rfl, HG, HB⟩ := hrel
    obtain ⟨wo, rfl⟩ : ∃ wo, wo = wr := ⟨wr, rfl⟩
    have hsz := HB.out.size
    by_cases hlt : k < n
    · have hltI : (k : Int) < (n : Int) := by omega
      have hkl : k < (idxs L).length := by rw [HIL.out]; exact hlt
      obtain ⟨ub, uo, rfl, _, hx⟩ := (HU.out.up HB.out (Nat.le_refl _)).at hkl
      rw [HLI.out k hlt] at hx
      obtain ⟨x, hxe⟩ : ∃ x, x = L.getD k 0 := ⟨_, rfl⟩
      have hxn : x < n := by rw [hxe]; exact HLT.out k hlt
      have hxI : (x : Int) < (n : Int) := by omega
      rw [← hxe] at hx
      have HX := Lib.hid hxe.symm
      clear hxe
      have HBW := Lib.hid (HB2.out.trans (HB.out.mono hz2'))
      obtain ⟨pb, po, rfl, c0, c1, c2⟩ := HCELL.out wo HBW.out x hxn
      obtain ⟨y, hy⟩ : ∃ y, y = st x := ⟨_, rfl⟩
      obtain ⟨z, hz⟩ : ∃ z, z = ga x := ⟨_, rfl⟩
      obtain ⟨ex, hex⟩ : ∃ z, z = en x := ⟨_, rfl⟩
      rw [← hy] at c0
      rw [← hz] at c2
      rw [← hex] at c1
      have HY := Lib.hid hy.symm
      have HZ := Lib.hid hz.symm
      clear hy hz hex
      obtain ⟨g, gc', hge, hg1, hg2⟩ := owns_some HG.out (by intro e; injection e with _ e _; omega)
      injection hge with hge _ hge2
      subst hge; subst hge2
      have HBC := Lib.hid (fun W (hW : Below wo.heap.size wo W) => HBF.out W (HB.out.trans (hW.mono hsz)) k y hk)
      go_upto_region 9 with fail
      refine wp_at fun W hW => ?_
      have HBl := Lib.hid (show Below wo.heap.size wo W by subst hW; (repeat' first | exact Below.refl _ _ | assumption | refine Below.alloc ?_ ?_ _ | refine Below.setCell ?_ ?_ _ | refine Below.drew ?_ | (simp; done) | (simp; omega)))
      have HK := Lib.hid (show Blk W wo.heap.size 41 #[.int .i64 y, .int .i64 ex, .int .i64 z] by subst hW; exact Blk.new _ _ _)
      clear hW c0 c1 c2 hx
      have d0 : W.cell? ⟨wo.heap.size, 0, none⟩ = some (.int .i64 y) := HK.out.cell 0 rfl
      have d2 : W.cell? ⟨wo.heap.size, 2, none⟩ = some (.int .i64 z) := HK.out.cell 2 rfl
      obtain ⟨q, hq⟩ : ∃ q, q = befI st en L k := ⟨_, rfl⟩
      have HQE := Lib.hid (show befK en L y k = q by rw [hq]; unfold befI; rw [HX.out, HY.out])
      have hqk : q ≤ k := by rw [hq]; exact befI_le st en L k
      have HQE2 := Lib.hid hq.symm
      clear hq
      rw [HQE.out] at HBC
      obtain ⟨vk, hvk⟩ : ∃ v, v = sumV st en ga L k := ⟨_, rfl⟩
      obtain ⟨vj, hvj⟩ : ∃ v, v = sumV st en ga L q := ⟨_, rfl⟩
      have HVK := Lib.hid hvk.symm
      have HVJ := Lib.hid hvj.symm
      clear hvk hvj
      have HRV := Lib.hid (show 0 ≤ vk ∧ vk ≤ 64000 ∧ 0 ≤ vj ∧ vj ≤ 64000 ∧ 0 ≤ z ∧ z ≤ 1000 by
        have r1 := sumV_rng st en ga L HGA.out k k (Nat.le_refl _)
        have r2 := sumV_rng st en ga L HGA.out q q (Nat.le_refl _)
        have r3 := HGA.out x
        rw [HVK.out] at r1
        rw [HVJ.out] at r2
        rw [HZ.out] at r3
        omega)
      obtain ⟨r1, r2, r3, r4, r5, r6⟩ := HRV.out
      have HSE2 := Lib.hid (show sumK st en ga L (k + 1) = sumK st en ga L k ++ [max vk (vj + z)] by rw [sumK_succ, sumV_succ, HQE2.out, HVK.out, HVJ.out, HX.out, HZ.out])
      obtain ⟨s, hs⟩ : ∃ s, s = vj + z := ⟨_, rfl⟩
      rw [← hs] at HSE2
      have hw : IntKind.i64.wrap (vj + z) = s := by rw [hs]; exact IntWalk.i64_in _ (by omega)
      clear hs
      have HGW := Lib.hid (owns_below HG.out HBl.out (Nat.le_refl _))
      have e1 : W.cell? ⟨g, k, none⟩ = some (.int .i64 vk) := by rw [HGW.out.cellAt k (by omega), sumK_cell st en ga L (Nat.le_refl k), HVK.out]
      have e2 : W.cell? ⟨g, q, none⟩ = some (.int .i64 vj) := by rw [HGW.out.cellAt q (by omega), sumK_cell st en ga L hqk, HVJ.out]
      have hqk1 : (q : Int) < (k : Int) + 1 := by omega
      have hkk1 : (k : Int) < (k : Int) + 1 := by omega
      go_quiet ((go_at_call 57; exact quiet_same (HBC.out _ (below_drewN HBl.out _))))
      generalize hwt : W.drewN _ = wt
      have HBT := Lib.hid (show Below wo.heap.size wo wt by subst hwt; exact below_drewN HBl.out _)
      have HGt := Lib.hid (owns_below HG.out HBT.out (Nat.le_refl _))
      have e1 : wt.cell? ⟨g, k, none⟩ = some (.int .i64 vk) := by rw [HGt.out.cellAt k (by omega), sumK_cell st en ga L (Nat.le_refl k), HVK.out]
      have hszt := Nat.le_trans hsz HBT.out.size
      clear hwt d0 d2 e2
      go_wp2_with (first
        | (go_at_call 58; refine (l00Max_any _ _ _).mono ?_; rintro e w4 ⟨rfl, rfl⟩)
        | (at_builtin; refine app_ints rfl _ _ rfl w2.heap.size (.slice (some ⟨g, 0, none⟩) (k + 1) gc) (k + 1) (sumK st en ga L k) rfl (HGt.out.alloc _) _ [max vk s] rfl (slc_oneB _ _ _ (by simp)) (k + 1 + 1) (sumK st en ga L (k + 1)) (by simp) HSE2.out (by omega) (by simp; omega) ?_; intro b3 c3 w3 hown3 hbl3 _ _))
      go_roundw
      case rel => exact ⟨k + 1, b3, c3, by go_num, by omega, rfl, Lib.hid hown3, Lib.hid (HB.out.trans ((HBT.out.mono hsz).trans (((Below.refl _ _).alloc hszt _).trans hbl3)))⟩
      case measure => simp [intOf]; omega
    · obtain rfl : k = n := by omega
      obtain ⟨g, gc', hge, hg1, hg2⟩ := owns_some HG.out (by intro e; injection e with _ e _; omega)
      injection hge with hge _ hge2
      subst hge; subst hge2
      have HTN := Lib.hid (show (bspT ps).length ≤ k by rw [HTS.out]; exact tkL_len st en ga L k (by rw [HLEN.out]; exact Nat.le_refl _))
      have HBW := Lib.hid (HB2.out.trans (HB.out.mono hz2'))
      have hzo := HBW.out.size
      go_upto_region 11 with fail
      go_upto_region 12 with (at_make; refine wpList_make_full _ rfl _ _ 73 rfl wo.heap.size 4 i0 (.bool false) 1 Try.underlying73 hi hz0 hz1 .i64 .i64 k k k rfl rfl rfl rfl (by rw [hz2]; omega) (by simp [maxLen]; omega) (by simp) ?_; intro w3 hown hgrow)
      have hb2 : Below wo.heap.size wo w3 := (Below.refl _ _).grown hgrow (Nat.le_refl _) (by intro k hk; cases hk)
      have hz : (madeCells (Value.bool false).cells (k * 1)).toList = flagsV k [] := by
        rw [flagsV_zero]; simpa [Value.cells] using toList_madeCells_one (Value.bool false) k
      rw [hz] at hown
      obtain ⟨f, hf⟩ : ∃ f, f = wo.heap.size := ⟨_, rfl⟩
      rw [← hf] at hown ⊢
      have hfl : f < w3.heap.size := (owns_lt hown (k := f) rfl).2
      have HO3 := Lib.hid hown
      have HB3 := Lib.hid hb2
      have hz3 := HB3.out.size
      have HFE := Lib.hid hf
      clear hown hb2 hz hgrow hf
      go_wp2_with fail
      go_loopw [11] (fun iv wr => ∃ (i : Nat), iv = .int .i64 i ∧ i ≤ k ∧ Hid (∃ S, S ++ tkL st en ga L i = bspT ps ∧ wr.ownsRow f 4 1 (.slice (some ⟨f, 0, none⟩) k k) k (flagsV k S)) ∧ Hid (Kept (· = f) w3 wr)) (fun iv _ => (intOf iv).toNat)
      case atStart => exact ⟨k, rfl, Nat.le_refl _, Lib.hid ⟨[], by rw [HTS.out]; rfl, HO3.out⟩, Lib.hid (Kept.refl _ _)⟩
      case round =>
        obtain ⟨i, rfl, hi2, HS, HKP⟩ := hrel
        obtain ⟨wi, rfl⟩ : ∃ wi, wi = wr := ⟨wr, rfl⟩
        obtain ⟨S, hS, hSo⟩ := HS.out
        have HO := Lib.hid hSo
        have HSS := Lib.hid hS
        have HBO := Lib.hid (HB3.out.trans (HKP.out.toBelow hz3 (fun k h1 h2 => by have := HFE.out; omega)))
        have hszi := HBO.out.size
        clear hS hSo HS
        by_cases hi0 : 0 < i
        · have hi0I : (0 : Int) < (i : Int) := by omega
          obtain ⟨p, hp⟩ : ∃ p, i = p + 1 := ⟨i - 1, by omega⟩
          have hw1 : IntKind.i64.wrap ((i : Int) - 1) = (p : Int) := by rw [IntWalk.i64_in _ (by omega)]; omega
          have hpI : (p : Int) < (k : Int) := by omega
          have hpk : p < k := by omega
          have hik1 : (i : Int) < (k : Int) + 1 := by omega
          have hpk1 : (p : Int) < (k : Int) + 1 := by omega
          have HP := Lib.hid hp
          clear hp
          obtain ⟨x1, hx1⟩ : ∃ x, x = sumV st en ga L i := ⟨_, rfl⟩
          obtain ⟨x0, hx0⟩ : ∃ x, x = sumV st en ga L p := ⟨_, rfl⟩
          have HX1 := Lib.hid hx1
          have HX0 := Lib.hid hx0
          clear hx1 hx0
          have e1 : wi.cell? ⟨g, i, none⟩ = some (.int .i64 x1) := by
            rw [HBO.out.cell (p := ⟨g, i, none⟩) hg2, HG.out.cellAt i (by omega), sumK_cell st en ga L hi2, HX1.out]
          have e0 : wi.cell? ⟨g, p, none⟩ = some (.int .i64 x0) := by
            rw [HBO.out.cell (p := ⟨g, p, none⟩) hg2, HG.out.cellAt p (by omega), sumK_cell st en ga L (show p ≤ k by omega), HX0.out]
          have HTK := Lib.hid (show tkL st en ga L i = if x0 < x1 then L.getD p 0 :: tkL st en ga L (befI st en L p) else tkL st en ga L p by rw [HP.out, tkL_succ, HX0.out, HX1.out, HP.out])
          by_cases c : x0 < x1
          · have hne : (x1 == x0) = false := by rw [beq_eq_false_iff_ne]; omega
            go_wp2_with fail
            go_quiet (fail)
            generalize hwt : wi.drewN _ = wt
            have HOt := Lib.hid (show wt.ownsRow f 4 1 (.slice (some ⟨f, 0, none⟩) k k) k (flagsV k S) by subst hwt; exact HO.out)
            have HKt := Lib.hid (show Kept (· = f) w3 wt by subst hwt; exact HKP.out.drewN _)
            have HBt := Lib.hid (show Below wo.heap.size wo wt by subst hwt; exact below_drewN HBO.out _)
            clear hwt e1 e0 hne
            have hpl : p < (idxs L).length := by rw [HIL.out]; exact hpk
            obtain ⟨ub, uo, rfl, _, hx⟩ := (HU.out.up (HB.out.trans (HBt.out.mono hsz)) (Nat.le_refl _)).at hpl
            rw [HLI.out p hpk] at hx
            obtain ⟨t, hte⟩ : ∃ t, t = L.getD p 0 := ⟨_, rfl⟩
            have htk : t < k := by rw [hte]; exact HLT.out p hpk
            have htI : (t : Int) < (k : Int) := by omega
            rw [← hte] at hx HTK
            have HTE := Lib.hid hte.symm
            have HT2 := Lib.hid (show tkL st en ga L i = t :: tkL st en ga L (befI st en L p) by rw [HTK.out, if_pos c])
            clear hte
            have hd := HOt.out.cellAt t (by omega)
            have hfr := HOt.out.frozenAt t
            rw [flagsV_at _ htk] at hd
            have HST := Lib.hid (show (wt.setCell ⟨f, t, none⟩ (.bool true)).ownsRow f 4 1 (.slice (some ⟨f, 0, none⟩) k k) k (flagsV k (S ++ [t])) by rw [← flagsV_set _ htk]; exact (HOt.out.stored t (.bool true)).1)
            have HKS := Lib.hid (show Kept (· = f) w3 (wt.setCell ⟨f, t, none⟩ (.bool true)) from HKt.out.setCell (.inr rfl) _)
            have HBS := Lib.hid (HB3.out.trans (HKS.out.toBelow hz3 (fun k h1 h2 => by have := HFE.out; omega)))
            obtain ⟨pb, po, rfl, d0, _, _⟩ := HCELL.out _ (HBW.out.trans (HBS.out.mono hzo)) t htk
            obtain ⟨y, hy⟩ : ∃ y, y = st t := ⟨_, rfl⟩
            rw [← hy] at d0
            obtain ⟨ub2, uo2, ee, _, hx'⟩ := (HU.out.up (HB.out.trans (HBS.out.mono hsz)) (Nat.le_refl _)).at hpl
            simp only [Option.some.injEq, Addr.mk.injEq, and_true] at ee
            obtain ⟨rfl, rfl⟩ := ee
            rw [HLI.out p hpk, HTE.out] at hx'
            obtain ⟨q, hq⟩ : ∃ q, q = befI st en L p := ⟨_, rfl⟩
            have hqp : q ≤ p := by rw [hq]; exact befI_le st en L p
            have HBC := Lib.hid (HBF.out _ (HB.out.trans (HBS.out.mono hsz)) p y (by omega))
            rw [show befK en L y p = q by rw [hq]; unfold befI; rw [HTE.out, hy]] at HBC
            rw [← hq] at HT2
            clear hq hy c
            go_wp2_with (go_at_call 57; refine HBC.out.mono ?_; rintro e w4 ⟨rfl, rfl⟩)
            go_roundw
            case rel => exact ⟨q, rfl, by omega, Lib.hid ⟨S ++ [t], by rw [← HSS.out, HT2.out]; simp, HST.out⟩, HKS⟩
            case measure => simp [intOf]; have := HP.out; omega
          · have HM := sumV_mono st en ga L p
            have hxx : x1 = x0 := by
              have := HX1.out
              have := HX0.out
              have h3 := HP.out
              rw [← h3] at HM
              omega
            subst hxx
            have hne : (x1 == x1) = true := by simp
            have HT2 := Lib.hid (show tkL st en ga L i = tkL st en ga L p by rw [HTK.out, if_neg c])
            clear c HM
            go_wp2_with fail
            go_quiet (fail)
            go_wp2_with fail
            go_roundw
            case rel => exact ⟨p, by go_num, by omega, Lib.hid ⟨S, by rw [← HT2.out]; exact HSS.out, HO.out⟩, Lib.hid (HKP.out.drewN _)⟩
            case measure => simp [intOf]; have := HP.out; omega
        · obtain rfl : i = 0 := by omega
          have HST := Lib.hid (show S = bspT ps by have := HSS.out; rw [tkL_zero, List.append_nil] at this; exact this)
          obtain ⟨G, hG⟩ : ∃ G, G = bspG ps := ⟨_, rfl⟩
          have e1 : wi.cell? ⟨g, k, none⟩ = some (.int .i64 G) := by
            rw [HBO.out.cell (p := ⟨g, k, none⟩) hg2, HG.out.cellAt k (by omega), sumK_cell st en ga L (Nat.le_refl k), hG, HGS.out]
          have HGG := Lib.hid hG
          clear hG
          have hkk1 : (k : Int) < (k : Int) + 1 := by omega
          have hzw : w.heap.size ≤ wi.heap.size := Nat.le_trans hzo hszi
          go_wp2_with fail
          go_region_held3 (fun X => X.cell? ⟨g, k, none⟩ = some (.int .i64 G) ∧ Below wi.heap.size wi X)
            (first | exact ⟨held_of hbn e1 (Nat.le_refl _), hbn⟩ | exact ⟨e1, (Below.refl _ _).drew⟩)
            (first | (go_at_call 52; have hh := (‹_ ∧ Below wi.heap.size wi _›).2; refine (l06Set_any k S _ k _ (by omega) ((slc_of_owns HO.out).below hh (Nat.le_refl _))).mono ?_; rintro e w5 ⟨u, rfl, ho5, hb5⟩; have hbn := hh.trans (hb5.mono hh.size); have ho6 := ho5.wide (Nat.le_trans hzw hh.size) (Nat.le_refl _)))
          go_wp2_with fail
          go_ret3
          refine ⟨u, by rw [← HGG.out]; rfl, ?_, HBW.out.trans ((HBO.out.trans (hbn.mono hszi)).mono hzo)⟩
          rw [HML.out, ← HST.out]
          exact ho6

end Go.Proofs.Ytkfiepiipigcmaa

namespace Go.Proofs.Ytkfiepiipigcmaa
open Go.RowKit

/-- The marks of spans. -/
def mkdP (k : Int) (ps : List SpanD) : List SpanD := (List.range ps.length).map fun (i : Nat) => ⟨k + 3 * i, k + 3 * i + 1, k + 3 * i + 2⟩
theorem cntP_le (ps : List SpanD) : cntP ps ≤ 3 * bulkP ps := by unfold cntP bulkP; omega
theorem mkdP_len (k : Int) (ps : List SpanD) : (mkdP k ps).length = ps.length := by simp [mkdP]

/-- The first m spans marked. -/
def mkpP (k : Int) (ps : List SpanD) (m : Nat) : List SpanD := (List.range ps.length).map fun (i : Nat) => if i < m then ⟨k + 3 * i, k + 3 * i + 1, k + 3 * i + 2⟩ else ps.getD i P0
theorem mkpP_len (k : Int) (ps : List SpanD) (m : Nat) : (mkpP k ps m).length = ps.length := by simp [mkpP]
theorem mkpP_zero (k : Int) (ps : List SpanD) : mkpP k ps 0 = ps := by
  apply List.ext_getElem?
  intro i
  by_cases h : i < ps.length
  · simp [mkpP, h]
  · simp [mkpP, h]
theorem mkpP_full (k : Int) (ps : List SpanD) : mkpP k ps ps.length = mkdP k ps := by
  apply List.ext_getElem?
  intro i
  by_cases h : i < ps.length
  · simp [mkpP, mkdP, h]
  · simp [mkpP, mkdP, h]
theorem mkpP_set (k : Int) (ps : List SpanD) (m : Nat) (hm : m < ps.length) : mkpP k ps (m + 1) = (mkpP k ps m).set m ⟨k + 3 * m, k + 3 * m + 1, k + 3 * m + 2⟩ := by
  apply List.ext_getElem?
  intro i
  rw [List.getElem?_set]
  by_cases h : i < ps.length
  · by_cases he : m = i
    · subst he; simp [mkpP, h]
    · have e : (i < m + 1) = (i < m) := by rw [eq_iff_iff]; omega
      simp [mkpP, h, he, e]
  · by_cases he : m = i
    · omega
    · simp [mkpP, h, he]
theorem ownsP_some {w : World} {lo size : Nat} {e : TypeId} {a : Option Addr} {n cap : Nat} {vs : List Value} (h : w.ownsRow lo e size (.slice a n cap) n vs) (hn : 0 < n) : ∃ g, a = some ⟨g, 0, none⟩ ∧ lo ≤ g := by
  rcases h.2 with ⟨e, e2⟩ | ⟨g, cap', cur, e, hb, _⟩
  · simp at e; omega
  · simp only [Value.slice.injEq, true_and] at e
    exact ⟨g, e.1, hb⟩

set_option maxHeartbeats 1000000 in
theorem markP_o (v : Value) (lo hi : Nat) (ps : List SpanD) (k : Int) (w : World) (ho : OwnP lo hi w v ps) (h0 : 0 ≤ k) (h1 : k + cntP ps ≤ 1099511627776) :
    Calls Try.prog 15 #[v, .int .i64 k] w fun e w' => e = .returned (.int .i64 (k + cntP ps)) ∧ OwnP lo hi w' v (mkdP k ps) ∧ Kept (fun b => lo ≤ b ∧ b < hi) w w' := by
  obtain ⟨a, c, rfl⟩ := ho.rd.shape
  have hl := ho.rd.len
  unfold maxLen at hl
  unfold cntP at h1 ⊢
  have HO := Lib.hid ho
  clear ho
  go_enter Try.func15, Try.ntmps15
  go_wp2_with fail
  go_loopw [1, 5] (fun kk i wr => ∃ j : Nat, i = .int .i64 j ∧ j ≤ ps.length ∧ kk = .int .i64 (k + 3 * j) ∧ wr.ownsRow lo 41 3 (.slice a ps.length c) ps.length (spansC (mkpP k ps j)) ∧ Kept (fun b => lo ≤ b ∧ b < hi) w wr) (fun _ i _ => ps.length - (intOf i).toNat)
  case atStart => exact ⟨0, rfl, Nat.zero_le _, by simp, by rw [mkpP_zero]; exact HO.out.1, Kept.refl _ _⟩
  case round =>
    obtain ⟨j, rfl, hj, rfl, hown, hkp⟩ := hrel
    have HO1 := Lib.hid hown
    have HK1 := Lib.hid hkp
    clear hkp
    by_cases hlt : j < ps.length
    · obtain ⟨g, rfl, hlo⟩ := ownsP_some hown (by omega)
      have hhi := HO.out.2 g rfl
      clear hown
      have hlen := mkpP_len k ps j
      have d0 := HO1.out.cellAt (j * 3) (by omega)
      have d1 := HO1.out.cellAt (j * 3 + 1) (by omega)
      have d2 := HO1.out.cellAt (j * 3 + 2) (by omega)
      have e0 := spansC_at (mkpP k ps j) j 0 (by omega) (by omega)
      rw [Nat.add_zero] at e0
      rw [e0] at d0
      rw [spansC_at (mkpP k ps j) j 1 (by omega) (by omega)] at d1
      rw [spansC_at (mkpP k ps j) j 2 (by omega) (by omega)] at d2
      generalize (mkpP k ps j).getD j P0 = old at d0 d1 d2
      simp only [spanCells, List.getElem?_cons_zero, List.getElem?_cons_succ, I64] at d0 d1 d2
      have f0 := HO1.out.frozenAt (j * 3)
      have f1 := HO1.out.frozenAt (j * 3 + 1)
      have f2 := HO1.out.frozenAt (j * 3 + 2)
      have HST := Lib.hid (((HO1.out.stored (j * 3) (.int .i64 (k + 3 * j))).1.stored (j * 3 + 1) (.int .i64 (k + 3 * j + 1))).1.stored (j * 3 + 2) (.int .i64 (k + 3 * j + 2))).1
      have HSET := Lib.hid (mkpP_set k ps j hlt)
      have HJC := Lib.hid (spansC_set (mkpP k ps j) j (k + 3 * j) (k + 3 * j + 1) (k + 3 * j + 2) (by omega))
      clear e0 hlen
      have s1 : k + 3 * (j : Int) + 1 + 1 = k + 3 * (j : Int) + 2 := by omega
      go_wp2_with fail
      go_roundw
      case rel =>
        refine ⟨j + 1, by go_num, by omega, congrArg (Value.int IntKind.i64) (by push_cast; omega), ?_, ((HK1.out.setCell (.inr ⟨hlo, hhi⟩) _).setCell (.inr ⟨hlo, hhi⟩) _).setCell (.inr ⟨hlo, hhi⟩) _⟩
        rw [HSET.out, ← HJC.out]
        exact HST.out
      case measure => simp [intOf]; omega
    · clear hown
      obtain rfl : j = ps.length := by omega
      go_wp2_with fail
      go_ret
      refine ⟨congrArg (fun x => Ending.returned (Value.int IntKind.i64 x)) (by push_cast; omega), ⟨?_, HO.out.2⟩, HK1.out⟩
      have h := HO1.out
      rw [mkpP_full] at h
      rw [mkdP_len]
      exact h

end Go.Proofs.Ytkfiepiipigcmaa

namespace Go.Proofs.Ytkfiepiipigcmaa
open Go.ChangeShapes Go.WideShapes Go.ChangeAt Go.RowKit
set_option linter.unusedVariables false

def WfP (ps : List SpanD) : Prop := True

section
variable {H : Type} {enc : TypeId × Value → H} {w : World} {base : Nat} {spare : Nat → Bool} {held : Bool}

theorem cells_three {a : Addr} {cs : List Value} (h : w.cells? base a (0 + 3) = some cs) : ∃ v0 v1 v2, cs = [v0, v1, v2] ∧ w.cell? (a.add 0) = some v0 ∧ w.cell? (a.add 1) = some v1 ∧ w.cell? (a.add 2) = some v2 := by
  simp only [World.cells?, Nat.zero_add] at h
  split at h
  · rw [show List.range 3 = [0, 1, 2] from rfl] at h
    cases h0 : w.cell? (a.add 0) with
    | none => rw [List.mapM_cons, h0] at h; simp at h
    | some v0 =>
      cases h1 : w.cell? (a.add 1) with
      | none => rw [List.mapM_cons, h0, List.mapM_cons, h1] at h; simp at h
      | some v1 =>
        cases h2 : w.cell? (a.add 2) with
        | none => rw [List.mapM_cons, h0, List.mapM_cons, h1, List.mapM_cons, h2] at h; simp at h
        | some v2 =>
          rw [List.mapM_cons, h0, List.mapM_cons, h1, List.mapM_cons, h2] at h
          simp at h
          exact ⟨v0, v1, v2, h.symm, rfl, rfl, rfl⟩
  · cases h

theorem cells_span : Try.prog.cellsOf 77 = 3 := by kernel_rfl
theorem cells_spans : Try.prog.cellsOf 22 = 1 := by kernel_rfl

set_option maxRecDepth 100000 in
theorem trod_Pa {fuel : Nat} {cs : List Value} {x : DataW H × List MemPlace} (h : DataW.trod enc Try.prog w base spare held fuel 77 cs = some x) : ∃ j : SpanD, cs = spanCells j := by
  obtain ⟨y0, y1, y2, n, _, hl, h0, h1, h2⟩ := Go.Deep.trod_struct3 Try.underlying77 h
  rw [cells_span] at hl
  match cs, hl with
  | [a, b, c], _ =>
    rw [cells_i64'] at h0 h1 h2
    obtain ⟨z0, e0⟩ := trod_i64 h0
    obtain ⟨z1, e1⟩ := trod_i64 h1
    obtain ⟨z2, e2⟩ := trod_i64 h2
    simp at e0 e1 e2
    subst e0 e1 e2
    exact ⟨⟨z0, z1, z2⟩, rfl⟩

set_option maxRecDepth 100000 in
theorem trod_P {fuel : Nat} {cs : List Value} {x : DataW H × List MemPlace} (h : DataW.trod enc Try.prog w base spare held fuel 22 cs = some x) : ∃ v ps, cs = [v] ∧ RdP w v ps := by
  rcases DataW.trod_slice Try.underlying22 h with ⟨rfl, _⟩ | ⟨a, len, cap, elems, rest, n, _, rfl, _, hb, hl, hm, hlen, hel, _, _⟩
  · exact ⟨_, [], rfl, .inl ⟨none, 0, rfl, by simp [maxLen], rfl⟩⟩
  · rw [cells_span] at hel
    have hex : ∀ i, i < len → ∃ q : SpanD, (i = 0 → ∃ b off, a = ⟨b, off, none⟩) ∧ (∀ c u, (spanCells q)[c]? = some u → w.cell? ((a.add (i * 3)).add c) = some u) := by
      intro i hi
      have h1 := hel i hi
      rw [List.getElem?_eq_getElem (by omega)] at h1
      cases hc : w.cells? base (a.add (i * 3)) 3 with
      | none => rw [hc] at h1; simp at h1
      | some cs' =>
        rw [hc] at h1
        simp only [Option.bind_some] at h1
        obtain ⟨v0, v1, v2, rfl, q0, q1, q2⟩ := cells_three hc
        obtain ⟨q, e⟩ := trod_Pa h1
        simp [spanCells] at e
        obtain ⟨rfl, rfl, rfl⟩ := e
        refine ⟨q, ?_, ?_⟩
        · rintro rfl
          obtain ⟨b, off, ha⟩ := add_plain q0
          exact ⟨b, off, by simpa [Addr.add] using ha⟩
        · intro c u hu
          match c, hu with
          | 0, hu => simp [spanCells] at hu; subst hu; exact q0
          | 1, hu => simp [spanCells] at hu; subst hu; exact q1
          | 2, hu => simp [spanCells] at hu; subst hu; exact q2
          | c + 3, hu => simp [spanCells] at hu
    obtain ⟨l, hll, hlp⟩ := exists_list _ len hex
    by_cases hz : len = 0
    · subst hz
      exact ⟨_, [], rfl, .inl ⟨some a, cap, rfl, hm, rfl⟩⟩
    · have h0 : l[0]? = some (l[0]'(by omega)) := List.getElem?_eq_getElem (by omega)
      obtain ⟨b, off, rfl⟩ := (hlp 0 _ h0).1 rfl
      refine ⟨_, l, rfl, .inr ⟨b, off, cap, by simp [hll], by omega, hm, fun i hi c u hu => ?_⟩⟩
      have hg : l[i]? = some (l.getD i P0) := by simp [hi]
      have h5 := (hlp i _ hg).2 c u hu
      have e : ((⟨b, off, none⟩ : Addr).add (i * 3)).add c = ⟨b, off + i * 3 + c, none⟩ := by
        unfold Addr.add
        by_cases q1 : i * 3 = 0 <;> by_cases q2 : c = 0 <;> simp [q1, q2]
      rwa [e] at h5

set_option maxRecDepth 100000 in
theorem arg_P {r : Reach} {b0 : Nat} {v : Value} {d : DataW H} {p : List MemPlace} (hv : Value.okWide Try.prog w r b0 22 v) (h : DataW.Trod enc Try.prog w base spare held 22 v d p) : ∃ zs, RdP w v zs ∧ WfP zs := by
  obtain ⟨a, len, cap, rfl⟩ := okWide_slice Try.underlying22 hv
  obtain ⟨fuel, hf⟩ := h
  obtain ⟨v, zs, e, h1⟩ := trod_P hf
  simp [Value.cells] at e
  subst e
  exact ⟨zs, h1, trivial⟩
end
end Go.Proofs.Ytkfiepiipigcmaa

namespace Go.Proofs.Ytkfiepiipigcmaa
open Go.RowKit

set_option maxHeartbeats 4000000 in
set_option maxRecDepth 100000 in
theorem lawBestSpans_any (w : World) (v0 : Value) (z0 : List SpanD) (r0 : RdP w v0 z0) :
    Calls Try.prog 4 #[v0] w fun e w' => e = .returned (.bool true) ∧ Below w.heap.size w w' := by
  obtain ⟨x0, c0, rfl⟩ := r0.shape
  have l0_0 : z0.length ≤ 9223372036854775807 := by have := RdP.len r0; unfold maxLen at this; omega
  have RP0 := Lib.hid r0
  clear r0
  have B : Hid (Below w.heap.size w w) := Below.refl _ _
  go_enter Try.func4, Try.ntmps4
  go_upto_region 2 with fail
  go_wp2_with fail
  refine (szP_any _ z0 _ _ (RP0.out.up B.out (Nat.le_refl _)) (by decide) (by decide)).mono ?_
  rintro e w1 ⟨s0, rfl, sa0, sb0, sc0, hb⟩
  replace B := Lib.hid (B.out.trans (hb.mono B.out.size))
  have zw1 : w.heap.size ≤ w1.heap.size := hb.size
  clear hb
  by_cases hn0 : s0 < 0
  · go_wp2_with fail
    go_ret
    exact ⟨rfl, B.out⟩
  have hs0 : bulkP z0 ≤ 1048576 := by have := sc0 (by omega); omega
  clear sa0 sb0 sc0
  have ne1 : ((bspG z0) != (bspG z0)) = false := by simp
  have ne2 : ((areSpansB z0) != (areSpansB z0)) = false := by simp
  go_upto_region 5 with fail
  go_wp2_with fail
  refine (toP_any _ z0 _ (RP0.out.up B.out (Nat.le_refl _)) hs0).mono ?_
  rintro e w2 ⟨vc0, rfl, c0, hb⟩
  replace c0 := Lib.hid c0
  replace B := Lib.hid (B.out.trans (hb.mono B.out.size))
  have zw2 : w1.heap.size ≤ w2.heap.size := hb.size
  clear hb
  go_wp2_with fail
  refine (bestSpansS_any _ z0 _ c0.out.rd).mono ?_
  rintro e w3 ⟨Wv0, rfl, Wo0, hb⟩
  replace Wo0 := Lib.hid Wo0
  replace B := Lib.hid (B.out.trans (hb.mono B.out.size))
  replace c0 := Lib.hid (c0.out.up hb (Nat.le_refl _))
  have zw3 : w2.heap.size ≤ w3.heap.size := hb.size
  clear hb
  clear c0
  go_upto_region 6 with fail
  go_wp2_with fail
  refine (toP_any _ z0 _ (RP0.out.up B.out (Nat.le_refl _)) hs0).mono ?_
  rintro e w4 ⟨vcp0, rfl, cp0, hb⟩
  replace cp0 := Lib.hid cp0
  replace B := Lib.hid (B.out.trans (hb.mono B.out.size))
  replace Wo0 := Lib.hid (Wo0.out.up hb (Nat.le_refl _))
  have zw4 : w3.heap.size ≤ w4.heap.size := hb.size
  clear hb
  go_upto_region 7 with fail
  go_wp2_with fail
  refine (bestI_any _ z0 _ cp0.out.rd).mono ?_
  rintro e w5 ⟨Gv0, rfl, Go0, hb⟩
  replace Go0 := Lib.hid Go0
  replace B := Lib.hid (B.out.trans (hb.mono B.out.size))
  replace Wo0 := Lib.hid (Wo0.out.up hb (Nat.le_refl _))
  replace cp0 := Lib.hid (cp0.out.up hb (Nat.le_refl _))
  have zw5 : w4.heap.size ≤ w5.heap.size := hb.size
  clear hb
  go_upto_region 8 with fail
  go_wp2_with fail
  refine (eqI_same _ _ (bspL z0) _ Go0.out.rd Wo0.out.rd).mono ?_
  rintro e w6 ⟨rfl, hb⟩
  replace B := Lib.hid (B.out.trans (hb.mono B.out.size))
  replace Wo0 := Lib.hid (Wo0.out.up hb (Nat.le_refl _))
  replace cp0 := Lib.hid (cp0.out.up hb (Nat.le_refl _))
  replace Go0 := Lib.hid (Go0.out.up hb (Nat.le_refl _))
  have zw6 : w5.heap.size ≤ w6.heap.size := hb.size
  clear hb
  go_upto_region 10 with fail
  go_wp2_with fail
  refine (toP_any _ z0 _ (RP0.out.up B.out (Nat.le_refl _)) hs0).mono ?_
  rintro e w7 ⟨vc0, rfl, c0, hb⟩
  replace c0 := Lib.hid c0
  replace B := Lib.hid (B.out.trans (hb.mono B.out.size))
  replace Wo0 := Lib.hid (Wo0.out.up hb (Nat.le_refl _))
  replace cp0 := Lib.hid (cp0.out.up hb (Nat.le_refl _))
  replace Go0 := Lib.hid (Go0.out.up hb (Nat.le_refl _))
  have zw7 : w6.heap.size ≤ w7.heap.size := hb.size
  clear hb
  go_wp2_with fail
  refine (eqP_same _ _ z0 _ cp0.out.rd c0.out.rd).mono ?_
  rintro e w8 ⟨rfl, hb⟩
  replace B := Lib.hid (B.out.trans (hb.mono B.out.size))
  replace Wo0 := Lib.hid (Wo0.out.up hb (Nat.le_refl _))
  replace cp0 := Lib.hid (cp0.out.up hb (Nat.le_refl _))
  replace Go0 := Lib.hid (Go0.out.up hb (Nat.le_refl _))
  replace c0 := Lib.hid (c0.out.up hb (Nat.le_refl _))
  have zw8 : w7.heap.size ≤ w8.heap.size := hb.size
  clear hb
  clear c0
  have hk0 : (0 : Int) ≤ 1 := by decide
  have hc0 : (0 : Int) ≤ (cntP z0 : Nat) := by omega
  go_upto_region 13 with fail
  go_wp2_with fail
  refine (markP_o _ _ _ z0 _ _ cp0.out (by omega) (by have := cntP_le z0; omega)).mono ?_
  rintro e w9 ⟨rfl, -, hb⟩
  replace B := Lib.hid (B.out.trans (hb.toBelow B.out.size (by rintro k hk1 ⟨h1, h2⟩; omega)))
  replace Wo0 := Lib.hid (Wo0.out.kept hb (by rintro b h1 h2 ⟨h3, h4⟩; omega))
  replace Go0 := Lib.hid (Go0.out.kept hb (by rintro b h1 h2 ⟨h3, h4⟩; omega))
  have zw9 : w8.heap.size ≤ w9.heap.size := hb.size
  clear hb
  clear cp0
  go_upto_region 14 with fail
  go_wp2_with fail
  refine (eqI_same _ _ (bspL z0) _ Go0.out.rd Wo0.out.rd).mono ?_
  rintro e w10 ⟨rfl, hb⟩
  replace B := Lib.hid (B.out.trans (hb.mono B.out.size))
  replace Wo0 := Lib.hid (Wo0.out.up hb (Nat.le_refl _))
  replace Go0 := Lib.hid (Go0.out.up hb (Nat.le_refl _))
  have zw10 : w9.heap.size ≤ w10.heap.size := hb.size
  clear hb
  have hcGo0 : (0 : Int) ≤ (cntI (bspL z0) : Nat) := by omega
  have Go0h := Go0
  clear Go0h
  go_upto_region 17 with fail
  go_wp2_with fail
  refine (markI_o _ _ _ (bspL z0) _ _ Go0.out (by omega) (by have := bspL_cnt z0; omega)).mono ?_
  rintro e w11 ⟨rfl, MGo0, hb⟩
  replace MGo0 := Lib.hid MGo0
  replace B := Lib.hid (B.out.trans (hb.toBelow B.out.size (by rintro k hk1 ⟨h1, h2⟩; omega)))
  replace Wo0 := Lib.hid (Wo0.out.kept hb (by rintro b h1 h2 ⟨h3, h4⟩; omega))
  have zw11 : w10.heap.size ≤ w11.heap.size := hb.size
  clear hb
  clear Go0
  have nm : ((1 + (cntI (bspL z0) : Int) : Int) != (1 + (cntI (bspL z0) : Int) : Int)) = false := by simp
  go_upto_region 19 with fail
  go_wp2_with fail
  refine (heldI_o _ (bspL z0) _ _ MGo0.out.rd (by omega) (by have := bspL_cnt z0; omega)).mono ?_
  rintro e w12 ⟨rfl, hb⟩
  replace B := Lib.hid (B.out.trans (hb.mono B.out.size))
  replace Wo0 := Lib.hid (Wo0.out.up hb (Nat.le_refl _))
  replace MGo0 := Lib.hid (MGo0.out.up hb (Nat.le_refl _))
  have zw12 : w11.heap.size ≤ w12.heap.size := hb.size
  clear hb
  go_upto_region 24 with fail
  go_wp2_with fail
  refine (toP_any _ z0 _ (RP0.out.up B.out (Nat.le_refl _)) hs0).mono ?_
  rintro e w13 ⟨vc0, rfl, c0, hb⟩
  replace c0 := Lib.hid c0
  replace B := Lib.hid (B.out.trans (hb.mono B.out.size))
  replace Wo0 := Lib.hid (Wo0.out.up hb (Nat.le_refl _))
  replace MGo0 := Lib.hid (MGo0.out.up hb (Nat.le_refl _))
  have zw13 : w12.heap.size ≤ w13.heap.size := hb.size
  clear hb
  go_wp2_with fail
  refine (bestI_any _ z0 _ c0.out.rd).mono ?_
  rintro e w14 ⟨Hv0, rfl, Ho0, hb⟩
  replace Ho0 := Lib.hid Ho0
  replace B := Lib.hid (B.out.trans (hb.mono B.out.size))
  replace Wo0 := Lib.hid (Wo0.out.up hb (Nat.le_refl _))
  replace MGo0 := Lib.hid (MGo0.out.up hb (Nat.le_refl _))
  replace c0 := Lib.hid (c0.out.up hb (Nat.le_refl _))
  have zw14 : w13.heap.size ≤ w14.heap.size := hb.size
  clear hb
  clear c0
  go_upto_region 25 with fail
  go_wp2_with fail
  refine (eqI_same _ _ (bspL z0) _ Ho0.out.rd Wo0.out.rd).mono ?_
  rintro e w15 ⟨rfl, hb⟩
  replace B := Lib.hid (B.out.trans (hb.mono B.out.size))
  replace Wo0 := Lib.hid (Wo0.out.up hb (Nat.le_refl _))
  replace MGo0 := Lib.hid (MGo0.out.up hb (Nat.le_refl _))
  replace Ho0 := Lib.hid (Ho0.out.up hb (Nat.le_refl _))
  have zw15 : w14.heap.size ≤ w15.heap.size := hb.size
  clear hb
  go_upto_region 28 with fail
  go_wp2_with fail
  refine (heldI_o _ (bspL z0) _ _ MGo0.out.rd (by omega) (by have := bspL_cnt z0; omega)).mono ?_
  rintro e w16 ⟨rfl, hb⟩
  replace B := Lib.hid (B.out.trans (hb.mono B.out.size))
  replace Wo0 := Lib.hid (Wo0.out.up hb (Nat.le_refl _))
  replace MGo0 := Lib.hid (MGo0.out.up hb (Nat.le_refl _))
  replace Ho0 := Lib.hid (Ho0.out.up hb (Nat.le_refl _))
  have zw16 : w15.heap.size ≤ w16.heap.size := hb.size
  clear hb
  go_wp2_with fail
  go_ret
  exact ⟨rfl, B.out⟩

end Go.Proofs.Ytkfiepiipigcmaa
