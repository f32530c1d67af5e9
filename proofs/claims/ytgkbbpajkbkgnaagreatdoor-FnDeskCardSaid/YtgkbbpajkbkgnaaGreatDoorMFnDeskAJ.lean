/-
  FnDesk: texts joined: DrpI.
-/
import Derived.Deep.CutRange
import Derived.Deep.RegionLaw
import Derived.Deep.RegionHeld3
import Derived.Test.YtgkbbpajkbkgnaaGreatDoorMFnDeskAC
import Derived.Test.YtgkbbpajkbkgnaaGreatDoorMFnDeskAD
import Derived.Test.YtgkbbpajkbkgnaaGreatDoorMFnDeskAF
set_option linter.unusedVariables false
set_option linter.unusedSimpArgs false
namespace Go.Proofs.YtgkbbpajkbkgnaaGreatDoor
open Go.RowKit
def drK (r : RowsD) (i : Nat) : Nat → List Nat × List Nat
  | 0 => ([], [])
  | k + 1 => if k = i then drK r i k else ((drK r i k).1 ++ rowO r k, (drK r i k).2 ++ [r.bnds.getD k 0])
def dropRw (r : RowsD) (i : Nat) : RowsD := ⟨r.vars, (drK r i r.bnds.length).1, (drK r i r.bnds.length).2, r.gains⟩
noncomputable def dropOk (r : RowsD) (i : Int) : Bool := validR r && (inB 0 ((r.bnds.length : Int) - 1) i && validR (dropRw r i.toNat))
noncomputable def dropV (r : RowsD) (i : Int) : RowsD := if dropOk r i = true then dropRw r i.toNat else zeroR
theorem drK_len {r : RowsD} (hv : ValR r) (i : Nat) : ∀ k, k ≤ r.bnds.length → (drK r i k).1.length ≤ 8 * k ∧ (drK r i k).2.length ≤ k
  | 0, _ => by simp [drK]
  | k + 1, hk => by
    have ih := drK_len hv i k (by omega)
    have hl := rowO_len hv (i := k) (by omega)
    have h8 := hv.v8
    have hg := hv.gl
    simp only [drK]
    split
    · omega
    · simp only [List.length_append, List.length_singleton]
      omega
theorem ownF_put {lo hi : Nat} {w : World} {v : Value} {xs : List Nat} {g : Nat} {cs : Array Value} (o : OwnF lo hi w v xs) (hb : Blk w g 26 cs) (j : Nat) (u : Value) : OwnF lo hi (w.setCell ⟨g, j, none⟩ u) v xs :=
  ⟨ownsRow_setCell_other o.1 (hb.not_owned o.1 (by decide)) _, o.2⟩
def fill4 (w : World) (g : Nat) (a b c d : Value) : World := (((w.setCell ⟨g, 0, none⟩ a).setCell ⟨g, 1, none⟩ b).setCell ⟨g, 2, none⟩ c).setCell ⟨g, 3, none⟩ d
theorem blk_fill {w : World} {g : Nat} (h : Blk w g 26 #[.int .i64 0, .slice none 0 0, .slice none 0 0, .slice none 0 0]) (a b c d : Value) : Blk (fill4 w g a b c d) g 26 #[a, b, c, d] := by
  have := (((h.set 0 a).set 1 b).set 2 c).set 3 d
  simpa [fill4] using this
theorem ownF_fill {lo hi : Nat} {w : World} {v : Value} {xs : List Nat} {g : Nat} (o : OwnF lo hi w v xs) (h : Blk w g 26 #[.int .i64 0, .slice none 0 0, .slice none 0 0, .slice none 0 0]) (a b c d : Value) : OwnF lo hi (fill4 w g a b c d) v xs :=
  ownF_put (ownF_put (ownF_put (ownF_put o h 0 a) (h.set 0 a) 1 b) ((h.set 0 a).set 1 b) 2 c) (((h.set 0 a).set 1 b).set 2 c) 3 d
theorem below_fill {B : Nat} {w w' : World} {g : Nat} (h : Below B w w') (hg : B ≤ g) (a b c d : Value) : Below B w (fill4 w' g a b c d) :=
  (((h.setCell hg a).setCell hg b).setCell hg c).setCell hg d
theorem fill_size (w : World) (g : Nat) (a b c d : Value) : (fill4 w g a b c d).heap.size = w.heap.size := by simp [fill4, World.setCell]
theorem isIndexB_any (i : Int) (n : Nat) (w : World) (hn : n ≤ 1000) :
    Calls Tryz.prog 282 #[.int .i64 i, .int .i64 n] w fun e w' => e = .returned (.bool (inB 0 ((n : Int) - 1) i)) ∧ w = w' := by
  have HW := Lib.hid (fun X => within_any i 0 ((n : Int) - 1) X)
  have hw : IntKind.i64.wrap ((n : Int) - 1) = (n : Int) - 1 := IntWalk.i64_in _ (by omega)
  go_enter Tryz.func282, Tryz.ntmps282
  go_wp2_with (go_at_call 115; refine (HW.out _).mono ?_; rintro e w' ⟨rfl, rfl⟩)
  go_ret
  exact ⟨rfl, rfl⟩
set_option maxHeartbeats 4000000 in
set_option maxRecDepth 8000 in
theorem dropYes_any (v : Value) (r : RowsD) (i : Nat) (w : World) (h : RdR w v r) (hv : validR r = true) (hi : i < r.bnds.length) :
    Calls Tryz.prog 228 #[v, .int .i64 i] w fun e w' => ∃ v', e = .returned (.tuple #[v', .bool (validR (dropRw r i))]) ∧ OwnR w.heap.size w'.heap.size w' v' (if validR (dropRw r i) = true then dropRw r i else zeroR) ∧ Below w.heap.size w w' := by
  obtain ⟨a1, c1, a2, c2, a3, c3, rfl⟩ := h.shape
  have HV := Lib.hid (validR_iff.1 hv)
  have hb8 := HV.out.b8
  have HRD := Lib.hid h
  have HVR := Lib.hid (fun X (hb : Below w.heap.size w X) => ValidRows_any _ r X (h.up hb (Nat.le_refl _)))
  rw [hv] at HVR
  have HII := Lib.hid (fun X => isIndexB_any (i : Int) r.bnds.length X (by omega))
  rw [show inB 0 ((r.bnds.length : Int) - 1) (i : Int) = true from inB_iff.2 (by omega)] at HII
  have HRW := Lib.hid (fun k (hk : k < r.bnds.length) X (hb : Below w.heap.size w X) => row_any _ r k X (h.up hb (Nat.le_refl _)) HV.out hk)
  have HRL := Lib.hid (fun k (hk : k < r.bnds.length) => rowO_len HV.out hk)
  have HDL := Lib.hid (drK_len HV.out i)
  have HD0 := Lib.hid (show drK r i 0 = ([], []) from rfl)
  have HDS := Lib.hid (fun k => show drK r i (k + 1) = if k = i then drK r i k else ((drK r i k).1 ++ rowO r k, (drK r i k).2 ++ [r.bnds.getD k 0]) from rfl)
  have HDR := Lib.hid (show dropRw r i = ⟨r.vars, (drK r i r.bnds.length).1, (drK r i r.bnds.length).2, r.gains⟩ from rfl)
  have HBC := Lib.hid (fun k (hk : k < r.bnds.length) X (hb : Below w.heap.size w X) => (h.parts.2.1.up hb (Nat.le_refl _)).at (i := k) hk)
  have HGL := Lib.hid HV.out.gl
  have hv8 := HV.out.v8
  have HG3 := Lib.hid (fun X (hb : Below w.heap.size w X) => h.parts.2.2.up hb (Nat.le_refl _))
  obtain ⟨DV, hDV⟩ : ∃ DV, DV = dropRw r i := ⟨_, rfl⟩
  rw [← hDV] at HDR ⊢
  obtain ⟨AV, hAV⟩ : ∃ AV, AV = if validR DV = true then DV else zeroR := ⟨_, rfl⟩
  obtain ⟨QV, hQV⟩ : ∃ QV, QV = validR DV := ⟨_, rfl⟩
  rw [← hAV, ← hQV]
  rw [← hQV] at hAV
  have HAV := Lib.hid hAV
  have HQV := Lib.hid hQV
  clear hAV hQV
  obtain ⟨D, hD⟩ : ∃ D, D = drK r i := ⟨_, rfl⟩
  rw [← hD] at HDL HD0 HDS HDR
  obtain ⟨rowF, hrF⟩ : ∃ f, f = rowO r := ⟨_, rfl⟩
  obtain ⟨n0, x1, x2, x3⟩ := r
  simp only at HVR HII HRW HRL HDL HDS HDR HBC HGL hb8 hi hv8 HG3 ⊢
  rw [← hrF] at HRW HRL HDS
  have hg3 : x3.length ≤ 8 := by have := HGL.out; omega
  obtain ⟨m, hm⟩ : ∃ m, m = x2.length := ⟨_, rfl⟩
  rw [← hm] at hb8 hi HVR HII HRW HRL HDL HDR HBC ⊢
  clear h hv hDV hD hrF hm
  have HRD := HRD
  go_enter Tryz.func228, Tryz.ntmps228
  go_upto_region 1 with fail
  refine wp_at fun W hW => ?_
  have HB := Lib.hid (show Below w.heap.size w W by subst hW; (repeat' first | exact Below.refl _ _ | assumption | refine Below.alloc ?_ ?_ _ | refine Below.setCell ?_ ?_ _ | refine Below.drew ?_ | (simp; done) | (simp; omega)))
  have HK := Lib.hid (show Blk W w.heap.size 26 #[.int .i64 n0, .slice a1 x1.length c1, .slice a2 m c2, .slice a3 x3.length c3] by subst hW; exact (Blk.new _ _ _).alloc _)
  have HL := Lib.hid (show Blk W (w.heap.size + 1) 26 #[.int .i64 0, .slice none 0 0, .slice none 0 0, .slice none 0 0] by subst hW; exact Blk.newB _ _ _ _ (by simp))
  have hl1 := HL.out.lt
  clear hW
  have d0 := HK.out.cell 0 rfl
  have d1 := HK.out.cell 1 rfl
  have d2 := HK.out.cell 2 rfl
  have d3 := HK.out.cell 3 rfl
  go_upto_region 3 with (first
    | (go_at_call 46; refine (HVR.out W HB.out).mono ?_; rintro e w1 ⟨rfl, hb1⟩; have hk1 := HK.out.below hb1 HK.out.lt; have d2' := hk1.cell 2 rfl)
    | (go_at_call 282; refine (HII.out _).mono ?_; rintro e w2 ⟨rfl, rfl⟩))
  have HB1 := Lib.hid (HB.out.trans (hb1.mono HB.out.size))
  have HK1 := Lib.hid hk1
  have HL1 := Lib.hid (HL.out.below hb1 hl1)
  have hz1 := hb1.size
  have hk1l := HK1.out.lt
  have hl1' := HL1.out.lt
  clear d0 d1 d2 d3 d2' hk1 hb1
  have HKEEP := Lib.hid (show ∀ X, Below w1.heap.size w1 X → X.cell? ⟨w.heap.size, 0, none⟩ = some (.int .i64 n0) ∧ X.cell? ⟨w.heap.size, 3, none⟩ = some (.slice a3 x3.length c3) ∧ Below w1.heap.size w1 X from fun X hb => by
    have k := HK1.out.below hb hk1l
    exact ⟨k.cell 0 rfl, k.cell 3 rfl, hb⟩)
  go_wp2_with fail
  go_cut [6] from 21 to 26 (fun bv wx => ∃ (bo : Nat) (bG : Option Addr) (cG : Nat), bv = .pointer (some ⟨bo, 0, none⟩) ∧ w1.heap.size ≤ bo ∧ Hid (Blk wx bo 26 #[.int .i64 n0, .slice none 0 0, .slice none 0 0, .slice bG x3.length cG]) ∧ Hid (OwnF w1.heap.size wx.heap.size wx (.slice bG x3.length cG) x3) ∧ Hid (Below w1.heap.size w1 wx))
  case first =>
    have dd := HKEEP.out w1.drew ((Below.refl _ _).drew)
    obtain ⟨d0, d3, _⟩ := dd
    have hb1d : Below w1.heap.size w1 w1.drew := (Below.refl w1.heap.size w1).drew
    have hb1a : Below w1.heap.size w1 (w1.alloc (.cells #[.int .i64 0, .slice none 0 0, .slice none 0 0, .slice none 0 0] 26)).drew := ((Below.refl w1.heap.size w1).alloc (Nat.le_refl _) _).drew
    have dd := HKEEP.out _ hb1a
    obtain ⟨d0', d3', _⟩ := dd
    go_region_law (first
      | (go_simp; go_at_call 131; refine (copyF_any _ x3 w1.drew (HG3.out _ (HB1.out.trans (hb1d.mono HB1.out.size))) (by omega)).mono ?_; rintro e wn ⟨yG, rfl, oG, hG⟩; obtain ⟨bG, cG, rfl⟩ := oG.rd.shape; have hbn : Below w1.heap.size w1 wn := hb1d.trans hG; have hnbA : Blk (wn.alloc (.cells #[.int .i64 0, .slice none 0 0, .slice none 0 0, .slice none 0 0] 26)) wn.heap.size 26 #[.int .i64 0, .slice none 0 0, .slice none 0 0, .slice none 0 0] := Blk.new _ _ _; have ⟨d0n, d3n, _⟩ := HKEEP.out wn hbn; have ⟨d0m, d3m, _⟩ := HKEEP.out _ (hbn.alloc hbn.size (.cells #[.int .i64 0, .slice none 0 0, .slice none 0 0, .slice none 0 0] 26)); have s0 := hnbA.free 0; have s1 := hnbA.free 1; have s2 := hnbA.free 2; have s3 := hnbA.free 3; have t0 := hnbA.cell 0 rfl; have t1 := hnbA.cell 1 rfl; have t2 := hnbA.cell 2 rfl; have t3 := hnbA.cell 3 rfl)
      | (go_simp; go_at_call 131; refine (copyF_any _ x3 (w1.alloc (.cells #[.int .i64 0, .slice none 0 0, .slice none 0 0, .slice none 0 0] 26)).drew (HG3.out _ (HB1.out.trans (hb1a.mono HB1.out.size))) (by omega)).mono ?_; rintro e wn ⟨yG, rfl, oG, hG⟩; obtain ⟨bG, cG, rfl⟩ := oG.rd.shape; have hbn : Below w1.heap.size w1 wn := hb1a.trans (hG.mono hb1a.size); have hnbB : Blk wn w1.heap.size 26 #[.int .i64 0, .slice none 0 0, .slice none 0 0, .slice none 0 0] := (show Blk (w1.alloc (.cells #[.int .i64 0, .slice none 0 0, .slice none 0 0, .slice none 0 0] 26)).drew w1.heap.size 26 #[.int .i64 0, .slice none 0 0, .slice none 0 0, .slice none 0 0] from Blk.new _ _ _).below hG (by simp); have ⟨d0n, d3n, _⟩ := HKEEP.out wn hbn; have ⟨d0m, d3m, _⟩ := HKEEP.out _ (hbn.alloc hbn.size (.cells #[.int .i64 0, .slice none 0 0, .slice none 0 0, .slice none 0 0] 26)); have s0 := hnbB.free 0; have s1 := hnbB.free 1; have s2 := hnbB.free 2; have s3 := hnbB.free 3; have t0 := hnbB.cell 0 rfl; have t1 := hnbB.cell 1 rfl; have t2 := hnbB.cell 2 rfl; have t3 := hnbB.cell 3 rfl))
    all_goals
      go_wp2_with fail
      go_meet
    all_goals first
      | (have hnbA := hnbA
         exact ⟨wn.heap.size, bG, cG, rfl, hbn.size, Lib.hid (Blk.new _ _ _), Lib.hid ((oG.up ((Below.refl wn.heap.size wn).alloc (Nat.le_refl _) _) (Nat.le_refl _)).wide hb1d.size (by simp)), Lib.hid (hbn.alloc hbn.size _)⟩)
      | (have hq1 := blk_fill hnbB (.int .i64 n0) (.slice none 0 0) (.slice none 0 0) (.slice bG x3.length cG)
         have hq2 := (ownF_fill oG hnbB (.int .i64 n0) (.slice none 0 0) (.slice none 0 0) (.slice bG x3.length cG)).wide (lo' := w1.heap.size) hb1a.size (hi' := (fill4 wn w1.heap.size (.int .i64 n0) (.slice none 0 0) (.slice none 0 0) (.slice bG x3.length cG)).heap.size) (by rw [fill_size]; exact Nat.le_refl _)
         have hq3 := below_fill hbn (Nat.le_refl w1.heap.size) (.int .i64 n0) (.slice none 0 0) (.slice none 0 0) (.slice bG x3.length cG)
         unfold fill4 at hq1 hq2 hq3
         exact ⟨w1.heap.size, bG, cG, rfl, Nat.le_refl _, hq1, hq2, hq3⟩)
  case rest =>
    obtain ⟨bo, bG, cG, rfl, hbo, HG0, HF0, HX0⟩ := hcut
    have hrb : Below w.heap.size w wc := HB1.out.trans (HX0.out.mono HB1.out.size)
    have d2 := (HK1.out.below HX0.out hk1l).cell 2 rfl
    clear HKEEP
    go_wp2_with fail
    go_loopw [30] (fun kv wr => ∃ (k : Nat) (y1 y2 : Option Addr) (e1 e2 : Nat), kv = .int .i64 k ∧ k ≤ m ∧ Hid (Blk wr bo 26 #[.int .i64 n0, .slice y1 (D k).1.length e1, .slice y2 (D k).2.length e2, .slice bG x3.length cG]) ∧ Hid (OwnR w1.heap.size wr.heap.size wr (.agg #[.int .i64 n0, .slice y1 (D k).1.length e1, .slice y2 (D k).2.length e2, .slice bG x3.length cG]) ⟨n0, (D k).1, (D k).2, x3⟩) ∧ Hid (Below w1.heap.size w1 wr)) (fun kv _ => m + 1 - (intOf kv).toNat)
    case atStart =>
      refine ⟨0, none, none, 0, 0, rfl, Nat.zero_le _, Lib.hid (by rw [HD0.out]; exact HG0.out), Lib.hid ?_, HX0⟩
      rw [HD0.out]
      have o : OwnF w1.heap.size wc.heap.size wc (.slice none 0 0) [] := ⟨World.ownsRow_nil _ _ _ _, by intro g hg; cases hg⟩
      exact ⟨_, _, _, rfl, o, o, HF0.out, (by intro g hg; cases hg), (by intro g hg; cases hg), (by intro g hg; cases hg)⟩
    case round =>
      obtain ⟨k, y1, y2, e1, e2, rfl, hk, HG, HO, HX⟩ := hrel
      obtain ⟨wo, rfl⟩ : ∃ wo, wo = wr := ⟨wr, rfl⟩
      have hgl := HG.out.lt
      have hzo := HX.out.size
      by_cases hlt : k < m
      · have hltI : (k : Int) < (m : Int) := by omega
        have HRB := Lib.hid (show Below w.heap.size w wo from HB1.out.trans (HX.out.mono HB1.out.size))
        obtain ⟨b2, o2, rfl, _, c2'⟩ := HBC.out k hlt wo HRB.out
        have hDS := HDS.out k
        have hDL := HDL.out k (by omega)
        by_cases hki : k = i
        · have hkd : ((k : Int) != (i : Int)) = false := by simp [hki]
          rw [if_pos hki] at hDS
          have HDE := Lib.hid hDS
          clear hDS hki
          go_wp2_with fail
          go_roundw
          case rel => exact ⟨k + 1, y1, y2, e1, e2, by go_num, by omega, Lib.hid (by rw [HDE.out]; exact HG.out), Lib.hid (by rw [HDE.out]; exact HO.out), HX⟩
          case measure => simp [intOf]; omega
        · have hkd : ((k : Int) != (i : Int)) = true := by simp; omega
          rw [if_neg hki] at hDS
          obtain ⟨bd, hbd⟩ : ∃ bd, bd = x2.getD k 0 := ⟨_, rfl⟩
          rw [← hbd] at c2' hDS
          have HDE := Lib.hid hDS
          have hrl := HRL.out k hlt
          have HRK := Lib.hid (HRW.out k hlt)
          obtain ⟨rw', hrw⟩ : ∃ rw', rw' = rowF k := ⟨_, rfl⟩
          rw [← hrw] at HDE hrl HRK
          obtain ⟨⟨D1, D2⟩, hDD⟩ : ∃ p, p = D k := ⟨_, rfl⟩
          rw [← hDD] at HDE hDL HG HO
          simp only at HDE hDL HG HO
          have hD1 : D1.length ≤ 64 := by omega
          have hD2 : D2.length ≤ 8 := by omega
          have hrl8 : rw'.length ≤ 8 := by omega
          clear hDS hki hbd hrw hDD hrl
          have g0 := HG.out.cell 0 rfl
          have g1 := HG.out.cell 1 rfl
          have g2 := HG.out.cell 2 rfl
          have g3 := HG.out.cell 3 rfl
          go_upto_region 9 with (at_builtin; refine app_fltsL rfl _ _ rfl w1.heap.size (.slice y2 D2.length e2) D2.length D2 rfl (HO.out.up ((Below.refl wo.heap.size wo).alloc (Nat.le_refl _) _) (Nat.le_refl _)).parts.2.1.1 _ [bd] rfl (slcF_one wo bd) (D2.length + 1) (D2 ++ [bd]) rfl rfl (by omega) (by simp; omega) ?_; intro y2' e2' w7 hown7 hbl7 hg7 hl7; have HG7 := Lib.hid (blk_grown (HG.out.alloc (.cells #[.float .f32 bd] 100)) hg7 ((HG.out.alloc (.cells #[.float .f32 bd] 100)).not_owned (HO.out.up ((Below.refl wo.heap.size wo).alloc (Nat.le_refl _) _) (Nat.le_refl _)).parts.2.1.1 (by decide))); have q1 := HG7.out.cell 2 rfl; have q2 := HG7.out.free 2)
          refine wp_at fun W8 hW8 => ?_
          have HO8' := ownR_set (ownR_app2 (HO.out.up ((Below.refl wo.heap.size wo).alloc (Nat.le_refl _) (.cells #[.float .f32 bd] 100)) (Nat.le_refl _)) (by simp) hg7 hown7 hl7) HG7.out 2 (.slice y2' (D2.length + 1) e2')
          have HO8 := Lib.hid (show OwnR w1.heap.size W8.heap.size W8 (.agg #[.int .i64 n0, .slice y1 D1.length e1, .slice y2' (D2.length + 1) e2', .slice bG x3.length cG]) ⟨n0, D1, D2 ++ [bd], x3⟩ by subst hW8; simpa using HO8')
          have HG8 := Lib.hid (show Blk W8 bo 26 #[.int .i64 n0, .slice y1 D1.length e1, .slice y2' (D2.length + 1) e2', .slice bG x3.length cG] by subst hW8; simpa using HG7.out.set 2 (.slice y2' (D2.length + 1) e2'))
          have HB8 := Lib.hid (show Below w1.heap.size w1 W8 by subst hW8; exact ((HX.out.alloc hzo _).trans hbl7).setCell hbo _)
          clear hW8 HO8' hown7 hbl7 hg7 hl7 q1 q2 HG7 g0 g1 g2 g3 c2'
          have HR8 := Lib.hid (HK1.out.below HB8.out hk1l)
          have hz8 := HB8.out.size
          have hgl8 := HG8.out.lt
          have g1 : W8.drew.cell? ⟨bo, 1, none⟩ = some (.slice y1 D1.length e1) := HG8.out.cell 1 rfl
          have r0 : W8.drew.cell? ⟨w.heap.size, 0, none⟩ = some (.int .i64 n0) := HR8.out.cell 0 rfl
          have r1 : W8.drew.cell? ⟨w.heap.size, 1, none⟩ = some (.slice a1 x1.length c1) := HR8.out.cell 1 rfl
          have r2 : W8.drew.cell? ⟨w.heap.size, 2, none⟩ = some (.slice (some ⟨b2, o2, none⟩) m c2) := HR8.out.cell 2 rfl
          have r3 : W8.drew.cell? ⟨w.heap.size, 3, none⟩ = some (.slice a3 x3.length c3) := HR8.out.cell 3 rfl
          have HRB8 : Below w.heap.size w W8.drew := (HB1.out.trans (HB8.out.mono HB1.out.size)).drew
          have HGD := Lib.hid (show Blk W8.drew bo 26 #[.int .i64 n0, .slice y1 D1.length e1, .slice y2' (D2.length + 1) e2', .slice bG x3.length cG] from HG8.out)
          have HOD := Lib.hid (show OwnR w1.heap.size W8.heap.size W8.drew (.agg #[.int .i64 n0, .slice y1 D1.length e1, .slice y2' (D2.length + 1) e2', .slice bG x3.length cG]) ⟨n0, D1, D2 ++ [bd], x3⟩ from HO8.out)
          go_region_law (first
            | (go_simp; go_at_call 75; refine (HRK.out W8.drew HRB8).mono ?_; rintro e wn ⟨ru, rfl, hru, hbn⟩; have HGn := HGD.out.below hbn hgl8; have q1n := HGn.cell 1 rfl; have hOn := HOD.out.up hbn (Nat.le_refl _))
            | (refine step_app_fltsL rfl (.tmp 45) (.tmp 48) (by rfl) w1.heap.size (.slice y1 D1.length e1) D1.length D1 (by rfl) hOn.parts.1.1 _ rw' (by rfl) hru (D1.length + rw'.length) (D1 ++ rw') rfl rfl (by omega) (Nat.le_trans hz8 hbn.size) ?_; intro y1' e1' w9 hown9 hbl9 hg9 hl9; have HG9 := blk_grown HGn hg9 (HGn.not_owned hOn.parts.1.1 (by decide)); have q9 := HG9.cell 1 rfl; have f9 := HG9.free 1))
          all_goals
            have hz9 := hbl9.size
            have HOA := Lib.hid (ownR_set (ownR_app1 hOn hbn.size hg9 hown9 hl9) HG9 1 (.slice y1' (D1.length + rw'.length) e1'))
            have HGA := Lib.hid (show Blk (w9.setCell ⟨bo, 1, none⟩ (.slice y1' (D1.length + rw'.length) e1')) bo 26 #[.int .i64 n0, .slice y1' (D1.length + rw'.length) e1', .slice y2' (D2.length + 1) e2', .slice bG x3.length cG] by simpa using HG9.set 1 (.slice y1' (D1.length + rw'.length) e1'))
            have HBA := Lib.hid (show Below w1.heap.size w1 (w9.setCell ⟨bo, 1, none⟩ (.slice y1' (D1.length + rw'.length) e1')) from (((HB8.out.drew).trans (hbn.mono hz8)).trans hbl9).setCell hbo _)
            have HL1 := Lib.hid (show (D (k + 1)).1.length = D1.length + rw'.length by rw [HDE.out]; simp)
            have HL2 := Lib.hid (show (D (k + 1)).2.length = D2.length + 1 by rw [HDE.out]; simp)
            go_wp2_with fail
            go_roundw
            case rel =>
              refine ⟨k + 1, y1', y2', e1', e2', by go_num, by omega, Lib.hid (by rw [HL1.out, HL2.out]; exact HGA.out), Lib.hid ?_, HBA⟩
              rw [HL1.out, HL2.out, HDE.out]
              simpa using HOA.out
            case measure => simp [intOf]; omega
      · obtain rfl : k = m := by omega
        have g0 := HG.out.cell 0 rfl
        have g1 := HG.out.cell 1 rfl
        have g2 := HG.out.cell 2 rfl
        have g3 := HG.out.cell 3 rfl
        have HDV := Lib.hid (show DV = ⟨n0, (D k).1, (D k).2, x3⟩ by rw [HDR.out])
        have HCK := Lib.hid (checked_any _ DV wo (by rw [HDV.out]; exact HO.out.rd))
        have HOV := Lib.hid (show OwnR w1.heap.size wo.heap.size wo (.agg #[.int .i64 n0, .slice y1 (D k).1.length e1, .slice y2 (D k).2.length e2, .slice bG x3.length cG]) DV by rw [HDV.out]; exact HO.out)
        obtain ⟨z1, hz1'⟩ : ∃ z, z = (D k).1.length := ⟨_, rfl⟩
        obtain ⟨z2, hz2'⟩ : ∃ z, z = (D k).2.length := ⟨_, rfl⟩
        rw [← hz1'] at g1 HCK HOV
        rw [← hz2'] at g2 HCK HOV
        rw [← HQV.out] at HCK
        clear hz1' hz2' HG HO HQV
        have FIN : ∀ Wx Wf, Below wo.heap.size wo Wx → Kept (· = w.heap.size + 1) Wx Wf → Below w.heap.size w Wf := fun Wx Wf hb hk => by
          have h1 : Below w.heap.size w Wx := HB1.out.trans ((HX.out.trans (hb.mono hzo)).mono HB1.out.size)
          exact h1.trans (hk.toBelow h1.size (by intro k h1 h2; omega))
        have HFIN := Lib.hid FIN
        clear FIN
        go_wp2_with fail
        refine HCK.out.mono ?_
        rintro e w9 ⟨rfl, hb9⟩
        have hlc := (HL1.out.below HX.out hl1').below hb9 (by omega)
        have e0 := hlc.cell 0 rfl
        have e1' := hlc.cell 1 rfl
        have e2' := hlc.cell 2 rfl
        have e3 := hlc.cell 3 rfl
        have f0 := hlc.free 0
        have f1 := hlc.free 1
        have f2 := hlc.free 2
        have f3 := hlc.free 3
        have HO9 := Lib.hid (HOV.out.up hb9 (Nat.le_refl _))
        have HB9 := Lib.hid hb9
        have hz9 := hb9.size
        have hl9 := hlc.lt
        clear hlc hb9 g0 g1 g2 g3
        cases QV
        · go_wp2_with fail
          refine bodyPost_ret (v := .tuple #[.agg #[.int .i64 0, .slice none 0 0, .slice none 0 0, .slice none 0 0], .bool false]) (by simp [results, Tryz.results228, go_sem, *]) rfl ?_
          refine ⟨_, rfl, by rw [HAV.out, if_neg Bool.false_ne_true]; exact ownR_zero _ _ _, HFIN.out w9 _ HB9.out ?_⟩
          repeat' first | exact Kept.refl _ _ | refine Kept.setCell ?_ (.inr (by simp)) _
        · go_wp2_with fail
          refine bodyPost_ret (v := .tuple #[.agg #[.int .i64 n0, .slice y1 z1 e1, .slice y2 z2 e2, .slice bG x3.length cG], .bool true]) (by simp [results, Tryz.results228, go_sem, *]) rfl ?_
          suffices hF : ∀ Wf, Kept (· = w.heap.size + 1) w9 Wf → ∃ v', Ending.returned (.tuple #[.agg #[.int .i64 n0, .slice y1 z1 e1, .slice y2 z2 e2, .slice bG x3.length cG], .bool true]) = .returned (.tuple #[v', .bool true]) ∧ OwnR w.heap.size Wf.heap.size Wf v' AV ∧ Below w.heap.size w Wf by
            refine hF _ ?_
            repeat' first | exact Kept.refl _ _ | refine Kept.setCell ?_ (.inr (by simp)) _
          intro Wf hK
          refine ⟨_, rfl, ?_, HFIN.out w9 Wf HB9.out hK⟩
          rw [show AV = DV by rw [HAV.out]; simp]
          have hz := hK.size
          have hbz := HB1.out.size
          exact (HO9.out.kept hK (by intro b h1 h2 h3; omega)).wide (by omega) (by omega)
set_option maxHeartbeats 2000000 in
set_option maxRecDepth 4000 in
theorem dropI_any (v : Value) (r : RowsD) (i : Int) (w : World) (h : RdR w v r) :
    Calls Tryz.prog 228 #[v, .int .i64 i] w fun e w' => ∃ v', e = .returned (.tuple #[v', .bool (dropOk r i)]) ∧ OwnR w.heap.size w'.heap.size w' v' (dropV r i) ∧ Below w.heap.size w w' := by
  have HF := Lib.hid (show dropOk r i = (validR r && (inB 0 ((r.bnds.length : Int) - 1) i && validR (dropRw r i.toNat))) from rfl)
  have HG := Lib.hid (show dropV r i = if dropOk r i = true then dropRw r i.toNat else zeroR from rfl)
  by_cases hq : (validR r && inB 0 ((r.bnds.length : Int) - 1) i) = true
  · rw [Bool.and_eq_true] at hq
    obtain ⟨h1, h2⟩ := hq
    have h3 := inB_iff.1 h2
    obtain ⟨k, rfl⟩ := Int.eq_ofNat_of_zero_le h3.1
    have e : dropOk r (k : Int) = validR (dropRw r k) := by rw [HF.out, h1, h2, Int.toNat_natCast]; rfl
    rw [HG.out, e, Int.toNat_natCast]
    exact dropYes_any v r k w h h1 (by omega)
  · have hqf : (validR r && inB 0 ((r.bnds.length : Int) - 1) i) = false := by simpa using hq
    have e : dropOk r i = false := by
      rw [HF.out, ← Bool.and_assoc, hqf]; rfl
    have e2 : dropV r i = zeroR := by rw [HG.out, e]; rfl
    rw [e, e2]
    have HQF := Lib.hid hqf
    have HVR := Lib.hid (fun X (hb : Below w.heap.size w X) => ValidRows_any v r X (h.up hb (Nat.le_refl _)))
    have HB8 := Lib.hid (fun (hv : validR r = true) => (validR_iff.1 hv).b8)
    obtain ⟨q1, h1⟩ : ∃ q, validR r = q := ⟨_, rfl⟩
    rw [h1] at HVR HQF HB8
    obtain ⟨a1, c1, a2, c2, a3, c3, rfl⟩ := h.shape
    obtain ⟨n0, x1, x2, x3⟩ := r
    simp only at HVR HQF HB8 ⊢
    obtain ⟨m, hm⟩ : ∃ m, m = x2.length := ⟨_, rfl⟩
    rw [← hm] at HVR HQF HB8 ⊢
    clear h hq hqf e e2 HF HG h1 hm
    go_enter Tryz.func228, Tryz.ntmps228
    go_upto_region 1 with fail
    refine wp_at fun W hW => ?_
    have HB := Lib.hid (show Below w.heap.size w W by subst hW; (repeat' first | exact Below.refl _ _ | assumption | refine Below.alloc ?_ ?_ _ | refine Below.setCell ?_ ?_ _ | refine Below.drew ?_ | (simp; done) | (simp; omega)))
    have HK := Lib.hid (show Blk W w.heap.size 26 #[.int .i64 n0, .slice a1 x1.length c1, .slice a2 m c2, .slice a3 x3.length c3] by subst hW; exact (Blk.new _ _ _).alloc _)
    have HL := Lib.hid (show Blk W (w.heap.size + 1) 26 #[.int .i64 0, .slice none 0 0, .slice none 0 0, .slice none 0 0] by subst hW; exact Blk.newB _ _ _ _ (by simp))
    have hl1 := HL.out.lt
    clear hW
    have d0 := HK.out.cell 0 rfl
    have d1 := HK.out.cell 1 rfl
    have d2 := HK.out.cell 2 rfl
    have d3 := HK.out.cell 3 rfl
    have FIN : ∀ w1 Wf, Below W.heap.size W w1 → Kept (· = w.heap.size + 1) w1 Wf → ∃ v', Ending.returned (.tuple #[.agg #[.int .i64 0, .slice none 0 0, .slice none 0 0, .slice none 0 0], .bool false]) = .returned (.tuple #[v', .bool false]) ∧ OwnR w.heap.size Wf.heap.size Wf v' zeroR ∧ Below w.heap.size w Wf := fun w1 Wf hb hk => by
      have h1 : Below w.heap.size w w1 := HB.out.trans (hb.mono HB.out.size)
      exact ⟨_, rfl, ownR_zero _ _ _, h1.trans (hk.toBelow h1.size (by intro k h1 h2; omega))⟩
    have HFIN := Lib.hid FIN
    clear FIN
    cases q1
    · go_wp2_with (go_at_call 46; refine (HVR.out W HB.out).mono ?_; rintro e w1 ⟨rfl, hb1⟩; have hk1 := HL.out.below hb1 hl1; have e0 := hk1.cell 0 rfl; have e1 := hk1.cell 1 rfl; have e2 := hk1.cell 2 rfl; have e3 := hk1.cell 3 rfl; have f0 := hk1.free 0; have f1 := hk1.free 1; have f2 := hk1.free 2; have f3 := hk1.free 3)
      refine bodyPost_ret (v := .tuple #[.agg #[.int .i64 0, .slice none 0 0, .slice none 0 0, .slice none 0 0], .bool false]) (by simp [results, Tryz.results228, go_sem, *]) rfl (HFIN.out w1 _ hb1 ?_)
      repeat' first | exact Kept.refl _ _ | refine Kept.setCell ?_ (.inr (by simp)) _
    · have hb8 := HB8.out (by first | rfl | trivial)
      have hiF : inB 0 ((m : Int) - 1) i = false := by have := HQF.out; simpa using this
      have HII := Lib.hid (fun X => isIndexB_any i m X (by omega))
      rw [hiF] at HII
      clear hiF HQF HB8
      go_wp2_with (first
        | (go_at_call 46; refine (HVR.out W HB.out).mono ?_; rintro e w1 ⟨rfl, hb1⟩; have hk1 := HL.out.below hb1 hl1; have e0 := hk1.cell 0 rfl; have e1 := hk1.cell 1 rfl; have e2 := hk1.cell 2 rfl; have e3 := hk1.cell 3 rfl; have f0 := hk1.free 0; have f1 := hk1.free 1; have f2 := hk1.free 2; have f3 := hk1.free 3; have d2' := (HK.out.below hb1 HK.out.lt).cell 2 rfl)
        | (go_at_call 282; refine (HII.out _).mono ?_; rintro e w2 ⟨rfl, rfl⟩))
      refine bodyPost_ret (v := .tuple #[.agg #[.int .i64 0, .slice none 0 0, .slice none 0 0, .slice none 0 0], .bool false]) (by simp [results, Tryz.results228, go_sem, *]) rfl (HFIN.out w1 _ hb1 ?_)
      repeat' first | exact Kept.refl _ _ | refine Kept.setCell ?_ (.inr (by simp)) _
end Go.Proofs.YtgkbbpajkbkgnaaGreatDoor
