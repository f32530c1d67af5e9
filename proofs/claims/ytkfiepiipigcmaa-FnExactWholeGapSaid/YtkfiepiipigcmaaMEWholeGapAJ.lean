/-
  FnExactWholeGap: texts joined: PlnI, PrcI, TbfM, AppZ.
-/
import Derived.Lib.AppendZeros
import Derived.Maps.AppendAt
import Derived.Test.YtkfiepiipigcmaaMEWholeGapAD
import Derived.Test.YtkfiepiipigcmaaMEWholeGapAI
namespace Go.Proofs.Ytkfiepiipigcmaa
open Go.RowKit

set_option maxHeartbeats 2000000 in
set_option maxRecDepth 8000 in
theorem planI_any (v : Value) (t : TabD) (w : World) (h : RdTb w v t) (hg : GoodT t) :
    Calls Try.prog 117 #[v] w fun e w' => ∃ u, e = .returned u ∧ OwnF w.heap.size w'.heap.size w' u (planT t) ∧ Below w.heap.size w w' := by
  have hd := hg.dim
  have HRT := Lib.hid h
  obtain ⟨a, c, b, d, rfl⟩ := h.shape
  obtain ⟨i0, hi, hz0, hz1, hz2⟩ := info_parts Try.infoF32
  have HBS := Lib.hid h.parts.2
  have HL := Lib.hid (fun X (hb : Below w.heap.size w X) i (hi : i < t.basis.length) => tabLast_any _ t i X (HRT.out.up hb (Nat.le_refl _)) hd (by omega))
  have HBA := Lib.hid hg.bas
  have HST := Lib.hid (show ∀ i, planK t (i + 1) = if t.basis.getD i 0 < (t.vars : Int) then (planK t i).set (t.basis.getD i 0).toNat (lastT t i) else planK t i from fun i => rfl)
  have HPL := Lib.hid (planK_len t)
  obtain ⟨P, hP⟩ : ∃ P, P = planK t := ⟨_, rfl⟩
  have HEND := Lib.hid (show planT t = P t.basis.length by rw [hP]; rfl)
  have HP0 := Lib.hid (show P 0 = List.replicate t.vars 0 by rw [hP]; rfl)
  rw [← hP] at HST HPL
  obtain ⟨N, hN⟩ : ∃ N, N = t.basis.length := ⟨_, rfl⟩
  obtain ⟨V, hV⟩ : ∃ V, V = t.vars := ⟨_, rfl⟩
  have HN := Lib.hid hN.symm
  have hb8 : N ≤ 8 := by rw [hN]; exact hd.b8
  have hv8 : V ≤ 8 := by rw [hV]; exact hd.v8
  have hv1 : 1 ≤ V := by rw [hV]; exact hd.v1
  rw [← hN] at HBS HEND HBA
  rw [← hN, ← hV] at HL ⊢
  rw [← hV] at HST HPL HP0
  clear h hd hg hP hN hV HRT
  go_enter Try.func117, Try.ntmps117
  go_upto_region 1 with fail
  refine wp_at fun W0 hW0 => ?_
  have HB0 := Lib.hid (show Below w.heap.size w W0 by subst hW0; (repeat' first | exact Below.refl _ _ | assumption | refine Below.alloc ?_ ?_ _ | refine Below.setCell ?_ ?_ _ | refine Below.drew ?_ | (simp; done) | (simp; omega)))
  have HK0 := Lib.hid (show Blk W0 w.heap.size 136 #[.int .i64 V, .slice a t.nums.length c, .slice b N d] by subst hW0; exact Blk.new _ _ _)
  clear hW0
  have hz0' := HB0.out.size
  have hzl : w.heap.size < W0.heap.size := HK0.out.lt
  have d0 : W0.cell? ⟨w.heap.size, 0, none⟩ = some (.int .i64 V) := HK0.out.cell 0 rfl
  go_upto_region 2 with (at_make; refine wpList_make_full _ rfl _ _ 60 rfl W0.heap.size 63 i0 (.float .f32 0) 1 Try.underlying60 hi hz0 hz1 .i64 .i64 V V V rfl rfl rfl rfl (by rw [hz2]; omega) (by simp [maxLen]; omega) (by simp) ?_; intro w2 hown hgrow)
  have hb2 : Below W0.heap.size W0 w2 := (Below.refl _ _).grown hgrow (Nat.le_refl _) (by intro k hk; cases hk)
  have hz : (madeCells (Value.float .f32 0).cells (V * 1)).toList = (P 0).map F32 := by
    rw [HP0.out, List.map_replicate]
    show _ = List.replicate V (Value.float .f32 0)
    simpa [Value.cells] using toList_madeCells_one (Value.float .f32 0) V
  rw [hz] at hown
  obtain ⟨g, hg⟩ : ∃ g, g = W0.heap.size := ⟨_, rfl⟩
  rw [← hg] at hown ⊢
  have hgl : g < w2.heap.size := (owns_lt hown (k := g) rfl).2
  have HO2 := Lib.hid hown
  have HB2 := Lib.hid (HB0.out.trans (hb2.mono hz0'))
  have HK2 := Lib.hid (HK0.out.below hb2 HK0.out.lt)
  have hgw : w.heap.size < g := by omega
  have HGE := Lib.hid hg
  clear hown hb2 hz hgrow hg d0
  have d2 : w2.cell? ⟨w.heap.size, 2, none⟩ = some (.slice b N d) := HK2.out.cell 2 rfl
  have hz2' := HB2.out.size
  go_wp2_with fail
  go_loopw [12] (fun iv wr => ∃ i : Nat, iv = .int .i64 i ∧ i ≤ N ∧ Hid (wr.ownsRow g 63 1 (.slice (some ⟨g, 0, none⟩) V V) V ((P i).map F32)) ∧ Hid (Kept (· = g) w2 wr)) (fun iv _ => N + 1 - (intOf iv).toNat)
  case atStart => exact ⟨0, rfl, Nat.zero_le _, HO2, Lib.hid (Kept.refl _ _)⟩
  case round =>
    obtain ⟨i, rfl, hi, HO, HKP⟩ := hrel
    obtain ⟨wo, rfl⟩ : ∃ wo, wo = wr := ⟨wr, rfl⟩
    have HBo := Lib.hid (HB2.out.trans (HKP.out.toBelow hz2' (fun k h1 h2 => by omega)))
    have HKo := Lib.hid (HK2.out.kept HKP.out (by omega))
    by_cases hlt : i < N
    · have hltI : (i : Int) < (N : Int) := by omega
      obtain ⟨gb, go, rfl, _, h1⟩ := (HBS.out.up HBo.out (Nat.le_refl _)).at (i := i) (by rw [HN.out]; exact hlt)
      have hbr := HBA.out i hlt
      have hst := HST.out i
      have HLI := Lib.hid (fun X hb => HL.out X hb i hlt)
      obtain ⟨x, hx⟩ : ∃ x, x = t.basis.getD i 0 := ⟨_, rfl⟩
      obtain ⟨l, hl⟩ : ∃ x, x = lastT t i := ⟨_, rfl⟩
      rw [← hx] at h1 hbr hst
      rw [← hl] at hst HLI
      have d0 : wo.cell? ⟨w.heap.size, 0, none⟩ = some (.int .i64 V) := HKo.out.cell 0 rfl
      have d1 : wo.cell? ⟨w.heap.size, 1, none⟩ = some (.slice a t.nums.length c) := HKo.out.cell 1 rfl
      have d2 : wo.cell? ⟨w.heap.size, 2, none⟩ = some (.slice (some ⟨gb, go, none⟩) N d) := HKo.out.cell 2 rfl
      clear hx hl
      by_cases hxv : x < (V : Int)
      · obtain ⟨y, rfl⟩ : ∃ y : Nat, x = (y : Int) := ⟨x.toNat, by omega⟩
        have hyV : y < V := by omega
        have HS2 := Lib.hid (show P (i + 1) = (P i).set y l by rw [hst, if_pos hxv, show ((y : Int)).toNat = y by omega])
        have hpl : y < (P i).length := by rw [HPL.out]; exact hyV
        clear hst
        go_wp2_with (go_at_call 150; refine (HLI.out wo HBo.out).mono ?_; rintro e w3 ⟨rfl, hb3⟩; have HO3 := Lib.hid (owns_below HO.out hb3 (Nat.le_refl _)); have HK3 := Lib.hid (HKP.out.below hb3 HKP.out.size); have c1 : w3.cell? ⟨g, y, none⟩ = some (.float .f32 ((P i).getD y 0)) := (by rw [HO3.out.cellAt y (by omega), List.getElem?_map, List.getElem?_eq_getElem hpl, List.getD_eq_getElem?_getD, List.getElem?_eq_getElem hpl]; rfl); have c2 := HO3.out.frozenAt y)
        go_roundw
        case rel => exact ⟨i + 1, by go_num, by omega, Lib.hid (by rw [HS2.out, List.map_set]; exact (HO3.out.stored y (.float .f32 l)).1), Lib.hid (HK3.out.setCell (.inr rfl) _)⟩
        case measure => simp [intOf]; omega
      · have HS2 := Lib.hid (show P (i + 1) = P i by rw [hst, if_neg hxv])
        clear hst
        go_wp2_with fail
        go_roundw
        case rel => exact ⟨i + 1, by go_num, by omega, Lib.hid (by rw [HS2.out]; exact HO.out), HKP⟩
        case measure => simp [intOf]; omega
    · obtain rfl : i = N := by omega
      go_wp2_with fail
      go_ret
      refine ⟨_, rfl, ?_, HBo.out⟩
      rw [HEND.out]
      exact (OwnF.mk (n := V) HO.out).wide (by omega) (Nat.le_refl _)

end Go.Proofs.Ytkfiepiipigcmaa

namespace Go.Proofs.Ytkfiepiipigcmaa
open Go.RowKit

theorem priceK_next (t : TabD) (k : Nat) : priceK t (k + 1) = priceK t k ++ [atT t t.basis.length (t.vars + k)] := by
  unfold priceK
  rw [List.range_succ, List.map_append]
  rfl
theorem priceK_len (t : TabD) (k : Nat) : (priceK t k).length = k := by unfold priceK; simp

set_option maxHeartbeats 2000000 in
set_option maxRecDepth 8000 in
theorem pricesI_any (v : Value) (t : TabD) (w : World) (h : RdTb w v t) (hg : GoodT t) :
    Calls Try.prog 118 #[v] w fun e w' => ∃ u, e = .returned u ∧ OwnF w.heap.size w'.heap.size w' u (priceT t) ∧ Below w.heap.size w w' := by
  have hd := hg.dim
  have HRT := Lib.hid h
  have h17 := hd.w17
  have hb8 := hd.b8
  have hv8 := hd.v8
  have hv1 := hd.v1
  obtain ⟨a, c, b, d, rfl⟩ := h.shape
  have HW := Lib.hid (fun X (hb : Below w.heap.size w X) => tabWide_any _ t X (HRT.out.up hb (Nat.le_refl _)) hd)
  have HA := Lib.hid (fun X (hb : Below w.heap.size w X) j (hj : j < wdT t) => tabAt_any _ t t.basis.length j X (HRT.out.up hb (Nat.le_refl _)) hd (Nat.le_refl _) hj)
  have HNX := Lib.hid (priceK_next t)
  obtain ⟨P, hP⟩ : ∃ P, P = priceK t := ⟨_, rfl⟩
  have HEND := Lib.hid (show priceT t = P t.basis.length by rw [hP]; rfl)
  have HP0 := Lib.hid (show P 0 = [] by rw [hP]; rfl)
  rw [← hP] at HNX
  have hWC : wdT t = t.vars + t.basis.length + 1 := rfl
  obtain ⟨N, hN⟩ : ∃ N, N = t.basis.length := ⟨_, rfl⟩
  obtain ⟨V, hV⟩ : ∃ V, V = t.vars := ⟨_, rfl⟩
  rw [← hN] at HW HA HEND HNX hWC hb8
  rw [← hV] at HW HA HNX hWC hv8 hv1
  rw [hWC] at HW HA h17
  obtain ⟨C, hC⟩ : ∃ C, C = V + N := ⟨_, rfl⟩
  rw [← hC] at HW HA h17
  have hw1 : IntKind.i64.wrap (((C + 1 : Nat) : Int) - 1) = (C : Int) := by rw [IntWalk.i64_in _ (by omega)]; omega
  obtain ⟨W, hW⟩ : ∃ W : Int, W = ((C + 1 : Nat) : Int) := ⟨_, rfl⟩
  rw [← hW] at hw1 HW
  rw [← hN, ← hV]
  clear h hd hg hP hN hV HRT hWC hW h17
  go_enter Try.func118, Try.ntmps118
  go_upto_region 1 with fail
  refine wp_at fun W0 hW0 => ?_
  have HB0 := Lib.hid (show Below w.heap.size w W0 by subst hW0; (repeat' first | exact Below.refl _ _ | assumption | refine Below.alloc ?_ ?_ _ | refine Below.setCell ?_ ?_ _ | refine Below.drew ?_ | (simp; done) | (simp; omega)))
  have HK0 := Lib.hid (show Blk W0 w.heap.size 136 #[.int .i64 V, .slice a t.nums.length c, .slice b N d] by subst hW0; exact Blk.new _ _ _)
  clear hW0
  have hz0 := HB0.out.size
  have d0 : W0.cell? ⟨w.heap.size, 0, none⟩ = some (.int .i64 V) := HK0.out.cell 0 rfl
  go_wp2_with fail
  go_loopw [3, 4] (fun ov sv wr => ∃ (k s : Nat) (g : Option Addr) (cc : Nat), ov = .slice g k cc ∧ sv = .int .i64 s ∧ Hid (s = V + k) ∧ k ≤ N ∧ Hid (wr.ownsRow W0.heap.size 63 1 (.slice g k cc) k ((P k).map F32)) ∧ Hid (Below W0.heap.size W0 wr)) (fun _ sv _ => C + 1 - (intOf sv).toNat)
  case atStart => exact ⟨0, V, none, 0, rfl, rfl, Lib.hid rfl, Nat.zero_le _, Lib.hid (by rw [HP0.out]; exact World.ownsRow_nil _ _ _ _), Lib.hid (Below.refl _ _)⟩
  case round =>
    obtain ⟨k, s, g, cc, rfl, rfl, HS, hk, HO, HB⟩ := hrel
    obtain ⟨wo, rfl⟩ : ∃ wo, wo = wr := ⟨wr, rfl⟩
    have HBW := Lib.hid (HB0.out.trans (HB.out.mono hz0))
    have HKo := Lib.hid (HK0.out.below HB.out HK0.out.lt)
    have d0 : wo.cell? ⟨w.heap.size, 0, none⟩ = some (.int .i64 V) := HKo.out.cell 0 rfl
    have d1 : wo.cell? ⟨w.heap.size, 1, none⟩ = some (.slice a t.nums.length c) := HKo.out.cell 1 rfl
    have d2 : wo.cell? ⟨w.heap.size, 2, none⟩ = some (.slice b N d) := HKo.out.cell 2 rfl
    have hszo := HB.out.size
    by_cases hlt : k < N
    · have hsI : (s : Int) < (C : Int) := by have := HS.out; omega
      have hsC : s < C := by omega
      have HAJ := Lib.hid (fun X hb => HA.out X hb s (by omega))
      have HE := Lib.hid (show P (k + 1) = P k ++ [atT t N s] by rw [HNX.out, HS.out])
      obtain ⟨x, hx⟩ : ∃ x, x = atT t N s := ⟨_, rfl⟩
      rw [← hx] at HAJ HE
      clear hx
      go_wp2_with (first
        | (go_at_call 151; refine (HW.out wo HBW.out).mono ?_; rintro e w2 ⟨rfl, hb2⟩; have HB2 := Lib.hid (HB.out.trans (hb2.mono hszo)); have e0 := (HKo.out.below hb2 HKo.out.lt).cell 0 rfl; have e1 := (HKo.out.below hb2 HKo.out.lt).cell 1 rfl; have e2 := (HKo.out.below hb2 HKo.out.lt).cell 2 rfl)
        | (go_at_call 152; refine (HAJ.out w2 (HB0.out.trans (HB2.out.mono hz0))).mono ?_; rintro e w3 ⟨rfl, hb3⟩; have HB3 := Lib.hid (HB2.out.trans (hb3.mono HB2.out.size)); have HO3 := Lib.hid (owns_below (owns_below HO.out hb2 (Nat.le_refl _)) hb3 (Nat.le_refl _)); have hsz3 := HB3.out.size)
        | (at_builtin; refine app_flts rfl _ _ rfl W0.heap.size (.slice g k cc) k (P k) rfl (HO3.out.alloc _) _ [x] rfl (slcF_oneB w3 x _ rfl) (k + 1) (P (k + 1)) (by simp) HE.out (by omega) (by simp; omega) ?_; intro g4 c4 w4 hown4 hbl4 _ _; have HB4 := Lib.hid (HB3.out.trans (((Below.refl _ _).alloc hsz3 _).trans hbl4)); have HO4 := Lib.hid hown4; clear hown4 hbl4))
      go_roundw
      case rel => exact ⟨k + 1, s + 1, g4, c4, rfl, by go_num, Lib.hid (by have := HS.out; omega), by omega, HO4, HB4⟩
      case measure => simp [intOf]; omega
    · obtain rfl : k = N := by omega
      have hsI : ¬ (s : Int) < (C : Int) := by have := HS.out; omega
      go_wp2_with (go_at_call 151; refine (HW.out wo HBW.out).mono ?_; rintro e w2 ⟨rfl, hb2⟩; have HO2 := Lib.hid (owns_below HO.out hb2 (Nat.le_refl _)))
      go_ret
      refine ⟨_, rfl, ?_, HB0.out.trans ((HB.out.trans (hb2.mono hszo)).mono hz0)⟩
      rw [HEND.out]
      exact (OwnF.mk (n := k) HO2.out).wide hz0 (Nat.le_refl _)

end Go.Proofs.Ytkfiepiipigcmaa

namespace Go.Proofs.Ytkfiepiipigcmaa
open Go.RowKit

theorem fin32_neg (x : Nat) : fin32 (negF x) = fin32 x := by
  have e : negF x % Ieee.single.signWeight = x % Ieee.single.signWeight := by
    show (x ^^^ 2 ^ 31) % 2 ^ 31 = x % 2 ^ 31
    rw [Nat.xor_mod_two_pow, Nat.mod_self, Nat.xor_zero]
  unfold fin32 Ieee.Format.read
  dsimp only
  rw [e]
  by_cases h1 : x % Ieee.single.signWeight < Ieee.single.binade
  · rw [if_pos h1, if_pos h1]
  · rw [if_neg h1, if_neg h1]
    by_cases h2 : x % Ieee.single.signWeight < Ieee.single.infRung
    · rw [if_pos h2, if_pos h2]
    · rw [if_neg h2, if_neg h2]
      by_cases h3 : x % Ieee.single.signWeight = Ieee.single.infRung
      · rw [if_pos h3, if_pos h3]
      · rw [if_neg h3, if_neg h3]

theorem unitsL_len (n i : Nat) : (unitsL n i).length = n := by unfold unitsL; simp
theorem unitsL_set (n i : Nat) (hi : i < n) : (List.replicate n 0).set i oneF = unitsL n i := by
  apply List.ext_getElem (by simp [unitsL])
  intro k h1 h2
  simp only [unitsL, List.getElem_set, List.getElem_replicate, List.getElem_map, List.getElem_range]
  by_cases e : i = k
  · rw [if_pos e, if_pos e.symm]
  · rw [if_neg e, if_neg (fun h => e h.symm)]
theorem tabN_len {r : RowsD} (hv : ValR r) : ∀ i, i ≤ r.bnds.length → (tabN r i).length = (r.gains.length + r.bnds.length + 1) * i
  | 0, _ => rfl
  | i + 1, h => by
    simp only [tabN, List.length_append, tabN_len hv i (by omega), rowO_len hv (i := i) (by omega), unitsL_len, List.length_cons, List.length_nil, Nat.mul_succ]
theorem tabG_len (r : RowsD) (k : Nat) (h : k ≤ r.gains.length) : (tabG r k).length = k := by unfold tabG; rw [List.length_map, List.length_take]; omega
theorem tabG_next (r : RowsD) (k : Nat) (h : k < r.gains.length) : tabG r (k + 1) = tabG r k ++ [negF (r.gains.getD k 0)] := by
  unfold tabG
  rw [List.take_add_one, List.getElem?_eq_getElem h, List.map_append, List.getD_eq_getElem?_getD, List.getElem?_eq_getElem h]
  rfl
theorem tabB_next (r : RowsD) (i : Nat) : tabB r (i + 1) = tabB r i ++ [r.vars + (i : Int)] := by
  unfold tabB
  rw [List.range_succ, List.map_append]
  rfl
theorem tabB_len (r : RowsD) (i : Nat) : (tabB r i).length = i := by unfold tabB; simp
theorem allFin_app {a b : List Nat} (ha : allFin a = true) (hb : allFin b = true) : allFin (a ++ b) = true := by
  unfold allFin at *
  rw [List.all_append, ha, hb]; rfl
theorem tabN_fin {r : RowsD} (hv : ValR r) : ∀ i, i ≤ r.bnds.length → allFin (tabN r i) = true
  | 0, _ => rfl
  | i + 1, h => by
    refine allFin_app (tabN_fin hv i (by omega)) (allFin_app (allFin_app (rowO_fin hv i) ?_) ?_)
    · unfold allFin unitsL
      rw [List.all_map, List.all_eq_true]
      intro k _
      show fin32 (if k = i then oneF else 0) = true
      split
      · decide +kernel
      · exact fin0
    · have hl := hv.lb i (by omega)
      unfold least at hl
      rw [Bool.and_eq_true] at hl
      show (fin32 (r.bnds.getD i 0) && true) = true
      rw [hl.1]; rfl
theorem tableT_good {r : RowsD} (hv : ValR r) : GoodT (tableT r) := by
  have h1 := hv.v1
  have h8 := hv.v8
  have hb1 := hv.b1
  have hb8 := hv.b8
  have hg := hv.gl
  refine ⟨⟨?_, ?_, ?_, ?_, ?_⟩, ?_, ?_⟩
  · show 1 ≤ r.gains.length; omega
  · show r.gains.length ≤ 8; omega
  · show 1 ≤ (tabB r r.bnds.length).length; rw [tabB_len]; exact hb1
  · show (tabB r r.bnds.length).length ≤ 8; rw [tabB_len]; exact hb8
  · show (tabN r r.bnds.length ++ tabG r r.gains.length ++ List.replicate (r.bnds.length + 1) 0).length = (r.gains.length + (tabB r r.bnds.length).length + 1) * ((tabB r r.bnds.length).length + 1)
    rw [tabB_len, List.length_append, List.length_append, tabN_len hv _ (Nat.le_refl _), tabG_len _ _ (Nat.le_refl _), List.length_replicate, Nat.mul_succ]
    omega
  · refine allFin_app (allFin_app (tabN_fin hv _ (Nat.le_refl _)) ?_) ?_
    · unfold allFin tabG
      rw [List.take_of_length_le (Nat.le_refl _), List.all_map, List.all_eq_true]
      intro x hx
      show fin32 (negF x) = true
      rw [fin32_neg]
      have := hv.fg
      unfold allFin at this
      exact List.all_eq_true.1 this x hx
    · unfold allFin
      rw [List.all_eq_true]
      intro x hx
      rw [List.eq_of_mem_replicate hx]
      exact fin0
  · intro i hi
    have hi' : i < r.bnds.length := by
      have : i < (tabB r r.bnds.length).length := hi
      rw [tabB_len] at this; exact this
    have e : (tableT r).basis.getD i 0 = r.vars + (i : Int) := by
      show (tabB r r.bnds.length).getD i 0 = _
      unfold tabB
      rw [List.getD_eq_getElem?_getD, List.getElem?_map, List.getElem?_range hi']
      rfl
    rw [e]
    have e2 : colsT (tableT r) = r.gains.length + r.bnds.length := by
      show r.gains.length + (tabB r r.bnds.length).length = _
      rw [tabB_len]
    rw [e2]
    omega

end Go.Proofs.Ytkfiepiipigcmaa

namespace Go.Proofs.Ytkfiepiipigcmaa
open Go.RowKit

theorem zeroCells_one (z : Value) (hz : z.cells = #[z]) (m : Nat) : (Builtin.zeroCells z.cells m).toList = List.replicate m z := by
  unfold Builtin.zeroCells
  rw [hz]
  apply List.ext_getElem
  · simp
  · intro i h1 h2
    simp [Nat.mod_one]

section
variable {P : Program} (w : World)
theorem run_append_zeros (base : Nat) (t tn ty e : TypeId) (i : TypeInfo) (z : Value) (bytes : Nat) (k kn : IntKind) (ht : P.underlying t = some (.slice e)) (htn : P.underlying tn = some (.int kn)) (hi : P.info? e = some i) (hz : i.zero = some z)
    (hsize : i.size = 1) (hby : i.bytes = bytes) (hzc : z.cells = #[z]) (h1z : z.oneCell' = true)
    (v : Value) (n : Nat) (xs : List Value) (hown : w.ownsRow base e 1 v n xs) (m : Nat) (h0 : 0 < m)
    (h63 : n + m ≤ maxLen) (hbytes : (n + m) * bytes ≤ 140737488355328) (hbase : base ≤ w.heap.size) :
    ∃ v' w', (Builtin.append_ #[t, tn] ty #[v, .int k m]).run P w = .ok v' w' ∧ w'.ownsRow base e 1 v' (n + m) (xs ++ List.replicate m z) ∧ w.grownBy w' v.ownBlock := by
  subst hby
  have hsmall : n + m ≤ 9223372036854775807 := by simp only [maxLen] at h63; omega
  have hlx : xs.length = n := by have := hown.1; omega
  have hlen : (xs ++ List.replicate m z).length = (n + m) * 1 := by rw [List.length_append, List.length_replicate, hlx]; omega
  have hm0 : m ≠ 0 := by omega
  have hw : IntKind.i64.wrap (m : Int) = m := by rw [IntKind.wrap_i64]; omega
  have hneg : ¬ ((m : Int) < 0) := by omega
  have hmb : m * i.bytes ≤ 140737488355328 := Nat.le_trans (Nat.mul_le_mul_right _ (by omega)) hbytes
  have h48i : ¬ (281474976710656 < (m : Int) * (i.bytes : Int)) := by
    rw [← Int.natCast_mul]
    omega
  have hzl := zeroCells_one z hzc m
  rcases hown.2 with ⟨rfl, rfl⟩ | ⟨g, cap, cur, rfl, hbg, hg, hnc, hcm, hcs, htake⟩
  · have hr := Lib.run_append_nil_zeros (P := P) w t tn ty e i z k kn ht htn hi hz m h0 (by omega) (by omega) (by omega)
    obtain rfl : xs = [] := List.eq_nil_of_length_eq_zero hlx
    rw [Nat.zero_add, List.nil_append]
    refine ⟨_, _, hr, ⟨by simp, .inr ⟨w.heap.size, _, _, rfl, hbase, heap_alloc_new w.drew _, by have := grownCap_ge w m 0 e; omega, grownCap_le_maxLen w m 0 e (by omega), ?_, ?_⟩⟩, ⟨rfl, rfl, rfl, by simp, fun k hk _ => by first | exact heap_alloc_old w.drew _ k hk | exact heap_alloc_old w.drew _ hk⟩⟩
    · have := grownCap_ge w m 0 e
      simp only [Array.size_append, size_zeroCells, hzc]
      simp
      omega
    · rw [Array.toList_append, hzl]
      simp
  · by_cases hroom : n + m ≤ cap
    · have hst := run_storeCells_at P g n e (List.replicate m z) 0 cur w hg (by simp; omega) (by intro u hu; rw [List.eq_of_mem_replicate hu]; exact h1z)
      simp only [Nat.add_zero] at hst
      have hr : (Builtin.append_ #[t, tn] ty #[.slice (some ⟨g, 0, none⟩) n cap, .int k m]).run P w = .ok (.slice (some ⟨g, 0, none⟩) (n + m) cap) (w.setRow g (cur.toList.take n ++ List.replicate m z ++ cur.toList.drop (n + (List.replicate m z).length)).toArray) := by
        simp [Builtin.append_, run_underlying ht, run_underlying htn, sizeOf, typeInfo, zeroValue, hi, hz, hsize, asInt, asIntOf, hw, hneg, hm0, h48i, hroom, hzl, Addr.add_lit, hst]
      refine ⟨_, _, hr, ⟨hlen, .inr ⟨g, cap, _, rfl, hbg, setRow_heap w g cur _ e _ hg, hroom, hcm, ?_, ?_⟩⟩, ⟨rfl, rfl, rfl, by simp, fun k _ hk => setRow_other w g k _ (fun e => hk (by simp [Value.ownBlock, e]))⟩⟩
      · simp only [List.size_toArray, List.length_append, List.length_take, List.length_drop, Array.length_toList, List.length_replicate]
        omega
      · rw [show cur.toList.take n = xs by simpa using htake, ← hlen]
        exact List.take_left
    · have holds : ∀ j u, xs[j]? = some u → w.cell? ((⟨g, 0, none⟩ : Addr).add j) = some u := hown.cells (g := g) rfl
      have hn : ¬ (n + m ≤ cap) := hroom
      have h63' : ¬ (9223372036854775807 < ((n : Int) + (m : Int))) := by omega
      have h48' : ¬ (281474976710656 < Builtin.nextslicecap (n + m) cap * i.bytes) := by have := growslice_fits (show cap < n + m by omega) hbytes; omega
      have hfo := run_firstCells_some (P := P) w.drew 1 n ⟨g, 0, none⟩ n cap xs (by omega) (by simpa using holds)
      have hr : (Builtin.append_ #[t, tn] ty #[.slice (some ⟨g, 0, none⟩) n cap, .int k m]).run P w = .ok (.slice (some ⟨w.heap.size, 0, none⟩) (n + m) (grownCap w (n + m) cap e)) (w.drew.alloc (.cells (xs.toArray ++ (Builtin.zeroCells z.cells m ++ Builtin.zeroCells z.cells (grownCap w (n + m) cap e - (n + m)))) e)) := by
        simp [Builtin.append_, run_underlying ht, run_underlying htn, sizeOf, typeInfo, zeroValue, hi, hz, hsize, asInt, asIntOf, hw, hneg, hm0, h48i, hn, h63', h48', Question.forced, hfo, newRow, grownCap]
      have hge := grownCap_ge w (n + m) cap e
      refine ⟨_, _, hr, ⟨hlen, .inr ⟨w.heap.size, _, _, rfl, hbase, heap_alloc_new w.drew _, hge, grownCap_le_maxLen w (n + m) cap e h63, ?_, ?_⟩⟩, ⟨rfl, rfl, rfl, by simp, fun k hk _ => by first | exact heap_alloc_old w.drew _ k hk | exact heap_alloc_old w.drew _ hk⟩⟩
      · simp only [Array.size_append, size_zeroCells, hzc, List.size_toArray]
        simp
        omega
      · rw [Array.toList_append, Array.toList_append, hzl, ← List.append_assoc, ← hlen]
        exact List.take_left
end

theorem app_zerosF {w : World} {ops : Array Oper} {rest : List Oper} {o : Oper} {a : Act} {Q : Exit → Act → World → Prop} (hgd : o.guard = none) (s x : Operand)
    (ho : o.op = .call { callee := .builtin .append, args := #[s, x], argTypes := #[60, 3] })
    (base : Nat) (v : Value) (n : Nat) (xs : List Nat) (hs : a.eval s = v) (hown : w.ownsRow base 63 1 v n (xs.map F32))
    (m : Nat) (hx : a.eval x = .int .i64 m) (h0 : 0 < m) (k : Nat) (ys : List Nat) (hm : k = n + m) (hys : ys = xs ++ List.replicate m 0) (hlen : k ≤ 17592186044416) (hbase : base ≤ w.heap.size)
    (h : ∀ a' cap' w', w'.ownsRow base 63 1 (.slice a' k cap') k (ys.map F32) → Below base w w' → w.grownBy w' v.ownBlock → wpList Try.prog ops Q rest (a.put o.dst (.slice a' k cap')) w') :
    wpList Try.prog ops Q (o :: rest) a w := by
  obtain ⟨i0, hi, hz0, hz1, hz2⟩ := info_parts Try.infoF32
  subst hm hys
  obtain ⟨v', w', hr, h1, h2⟩ := run_append_zeros (P := Try.prog) w base 60 3 o.type 63 i0 (.float .f32 0) 4 .i64 .i64 Try.underlying60 Try.underlying3 hi hz0 hz1 hz2 rfl rfl v n (xs.map F32) hown m h0 (by simp [maxLen]; omega) (by omega) hbase
  refine Lib.wpList_append_run w hgd s x _ _ ho _ _ hs hx v' w' hr ?_
  have h1' : w'.ownsRow base 63 1 v' (n + m) ((xs ++ List.replicate m 0).map F32) := by simpa [F32] using h1
  obtain ⟨a', cap', rfl⟩ := owns_shape h1'
  exact h a' cap' w' h1' (below_grown hown hbase h2) h2

theorem wp_app_fltsL {w : World} {o : Oper} {a : Act} {K : Act → World → Prop} {Q : Exit → Act → World → Prop} (s x : Operand)
    (ho : o.op = .call { callee := .builtin .append, args := #[s, x], argTypes := #[60, 60] })
    (base : Nat) (v : Value) (n : Nat) (xs : List Nat) (hs : a.eval s = v) (hown : w.ownsRow base 63 1 v n (xs.map F32))
    (sv : Value) (news : List Nat) (hx : a.eval x = sv) (hsv : Slc w sv (news.map F32)) (m : Nat) (ys : List Nat) (hm : m = n + news.length) (hys : ys = xs ++ news) (hlen : m ≤ 17592186044416) (hbase : base ≤ w.heap.size)
    (h : ∀ a' cap' w', w'.ownsRow base 63 1 (.slice a' m cap') m (ys.map F32) → Below base w w' → w.grownBy w' v.ownBlock → ((Value.slice a' m cap').ownBlock = v.ownBlock ∨ (Value.slice a' m cap').ownBlock = some w.heap.size) → K (a.put o.dst (.slice a' m cap')) w') :
    o.wp Try.prog a w K Q := by
  obtain ⟨i0, hi, hz0, hz1, hz2⟩ := info_parts Try.infoF32
  subst hm hys
  have hk : ∀ v' w', w'.ownsRow base 63 1 v' (n + news.length) (xs.map F32 ++ news.map F32) → w.grownBy w' v.ownBlock → (v'.ownBlock = v.ownBlock ∨ v'.ownBlock = some w.heap.size) → K (a.put o.dst v') w' := by
    intro v' w' h1 h2 h3
    have h1' : w'.ownsRow base 63 1 v' (n + news.length) ((xs ++ news).map F32) := by simpa using h1
    obtain ⟨a', cap', rfl⟩ := owns_shape h1'
    exact h a' cap' w' h1' (below_grown hown hbase h2) h2 h3
  rcases hsv with ⟨rfl, hnil⟩ | ⟨ad, cap, rfl, hcl, hcm, hc⟩
  · have hn : news = [] := by simpa using hnil
    subst hn
    have hrun := run_append_owned_none (P := Try.prog) (w := w) base 60 o.type 63 i0 1 Try.underlying60 hi v n (xs.map F32) hown
    unfold Oper.wp
    simp [execOp, ho, resolve, invoke, builtin, hs, hx, hrun, Result.andThen]
    exact hk v w (by simpa using hown) (World.grownBy.refl _ _) (.inl rfl)
  · obtain ⟨v', w', hr, h2, h3, _, h5⟩ := run_append_own_at (P := Try.prog) w base 60 o.type 63 i0 (.float .f32 0) 1 4 Try.underlying60 hi hz0 hz1 hz2 rfl (by decide) v n (xs.map F32) hown ad (news.map F32).length cap (news.map F32) (by simp) hc (f32_one news) (by simp [maxLen]; omega) (by simp; omega) hbase
    unfold Oper.wp execOp
    simp only [ho, resolve, invoke, builtin, Sem.run_bind, Sem.run_pure, Result.andThen_ok, List.map_toArray, List.map_cons, List.map_nil, hs, hx, hr]
    exact hk _ _ (by simpa using h2) h3 h5

theorem step_app_fltsL {w : World} {ops : Array Oper} {o : Oper} {a : Act} {K : Act → World → Prop} {Q : Exit → Act → World → Prop} {E : Prop} (hgd : o.guard = none) (s x : Operand)
    (ho : o.op = .call { callee := .builtin .append, args := #[s, x], argTypes := #[60, 60] })
    (base : Nat) (v : Value) (n : Nat) (xs : List Nat) (hs : a.eval s = v) (hown : w.ownsRow base 63 1 v n (xs.map F32))
    (sv : Value) (news : List Nat) (hx : a.eval x = sv) (hsv : Slc w sv (news.map F32)) (m : Nat) (ys : List Nat) (hm : m = n + news.length) (hys : ys = xs ++ news) (hlen : m ≤ 17592186044416) (hbase : base ≤ w.heap.size)
    (h : ∀ a' cap' w', w'.ownsRow base 63 1 (.slice a' m cap') m (ys.map F32) → Below base w w' → w.grownBy w' v.ownBlock → ((Value.slice a' m cap').ownBlock = v.ownBlock ∨ (Value.slice a' m cap').ownBlock = some w.heap.size) → K (a.put o.dst (.slice a' m cap')) w') :
    if Region.wanted o (yielded ops a.tmps) = true then Oper.wp Try.prog o a w K Q else E := by
  have hw : Region.wanted o (yielded ops a.tmps) = true := by simp [Region.wanted, hgd]
  rw [if_pos hw]
  exact wp_app_fltsL s x ho base v n xs hs hown sv news hx hsv m ys hm hys hlen hbase h

end Go.Proofs.Ytkfiepiipigcmaa
