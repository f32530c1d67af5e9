/-
  FnJournal: texts joined: DrpI, BitM, FillM, BinsM, SortM, CmpI.
-/
import Derived.Deep.CutRange
import Derived.Deep.RegionLaw
import Derived.Deep.RegionHeld3
import Derived.Laws.FloatBits
import Derived.Sort.LotA
import Derived.Sort.WalkA
import Derived.Test.YtgkbbpajkbkgnaaGreatDoorMFnJournalAB
import Derived.Test.YtgkbbpajkbkgnaaGreatDoorMFnJournalAD
import Derived.Test.YtgkbbpajkbkgnaaGreatDoorMFnJournalAE
import Derived.Test.YtgkbbpajkbkgnaaGreatDoorMFnJournalAG
import Derived.Test.YtgkbbpajkbkgnaaGreatDoorMFnJournalAH
import Derived.Test.YtgkbbpajkbkgnaaGreatDoorMFnJournalAI
import Derived.Test.YtgkbbpajkbkgnaaGreatDoorMFnJournalAK
import Derived.Test.YtgkbbpajkbkgnaaGreatDoorMFnJournalAN
set_option linter.unusedVariables false
set_option linter.unusedSimpArgs false
namespace Go.Proofs.YtgkbbpajkbkgnaaGreatDoor
open Go.RowKit
def drK (r : RowsD) (i : Nat) : Nat → List Nat × List Nat
  | 0 => ([], [])
  | k + 1 => if k = i then drK r i k else ((drK r i k).1 ++ rowO r k, (drK r i k).2 ++ [r.bnds.getD k 0])
def dropRw (r : RowsD) (i : Nat) : RowsD := ⟨r.vars, (drK r i r.bnds.length).1, (drK r i r.bnds.length).2, r.gains⟩
noncomputable def dropOk (r : RowsD) (i : Int) : Bool := validR r && (inB 0 ((r.bnds.length : Int) - 1) i && validR (dropRw r i.toNat))
noncomputable def dropV (r : RowsD) (i : Int) : RowsD := if dropOk r i = true then dropRw r i.toNat else zeroR
theorem drK_len {r : RowsD} (hv : ValR r) (i : Nat) : ∀ k, k ≤ r.bnds.length → (drK r i k).1.length ≤ 8 * k ∧ (drK r i k).2.length ≤ k
  | 0, _ => by simp [drK]
  | k + 1, hk => by
    have ih := drK_len hv i k (by omega)
    have hl := rowO_len hv (i := k) (by omega)
    have h8 := hv.v8
    have hg := hv.gl
    simp only [drK]
    split
    · omega
    · simp only [List.length_append, List.length_singleton]
      omega
theorem ownF_put {lo hi : Nat} {w : World} {v : Value} {xs : List Nat} {g : Nat} {cs : Array Value} (o : OwnF lo hi w v xs) (hb : Blk w g 26 cs) (j : Nat) (u : Value) : OwnF lo hi (w.setCell ⟨g, j, none⟩ u) v xs :=
  ⟨ownsRow_setCell_other o.1 (hb.not_owned o.1 (by decide)) _, o.2⟩
def fill4 (w : World) (g : Nat) (a b c d : Value) : World := (((w.setCell ⟨g, 0, none⟩ a).setCell ⟨g, 1, none⟩ b).setCell ⟨g, 2, none⟩ c).setCell ⟨g, 3, none⟩ d
theorem blk_fill {w : World} {g : Nat} (h : Blk w g 26 #[.int .i64 0, .slice none 0 0, .slice none 0 0, .slice none 0 0]) (a b c d : Value) : Blk (fill4 w g a b c d) g 26 #[a, b, c, d] := by
  have := (((h.set 0 a).set 1 b).set 2 c).set 3 d
  simpa [fill4] using this
theorem ownF_fill {lo hi : Nat} {w : World} {v : Value} {xs : List Nat} {g : Nat} (o : OwnF lo hi w v xs) (h : Blk w g 26 #[.int .i64 0, .slice none 0 0, .slice none 0 0, .slice none 0 0]) (a b c d : Value) : OwnF lo hi (fill4 w g a b c d) v xs :=
  ownF_put (ownF_put (ownF_put (ownF_put o h 0 a) (h.set 0 a) 1 b) ((h.set 0 a).set 1 b) 2 c) (((h.set 0 a).set 1 b).set 2 c) 3 d
theorem below_fill {B : Nat} {w w' : World} {g : Nat} (h : Below B w w') (hg : B ≤ g) (a b c d : Value) : Below B w (fill4 w' g a b c d) :=
  (((h.setCell hg a).setCell hg b).setCell hg c).setCell hg d
theorem fill_size (w : World) (g : Nat) (a b c d : Value) : (fill4 w g a b c d).heap.size = w.heap.size := by simp [fill4, World.setCell]
theorem isIndexB_any (i : Int) (n : Nat) (w : World) (hn : n ≤ 1000) :
    Calls Tryz.prog 282 #[.int .i64 i, .int .i64 n] w fun e w' => e = .returned (.bool (inB 0 ((n : Int) - 1) i)) ∧ w = w' := by
  have HW := Lib.hid (fun X => within_any i 0 ((n : Int) - 1) X)
  have hw : IntKind.i64.wrap ((n : Int) - 1) = (n : Int) - 1 := IntWalk.i64_in _ (by omega)
  go_enter Tryz.func282, Tryz.ntmps282
  go_wp2_with (go_at_call 115; refine (HW.out _).mono ?_; rintro e w' ⟨rfl, rfl⟩)
  go_ret
  exact ⟨rfl, rfl⟩
set_option maxHeartbeats 4000000 in
set_option maxRecDepth 8000 in
theorem dropYes_any (v : Value) (r : RowsD) (i : Nat) (w : World) (h : RdR w v r) (hv : validR r = true) (hi : i < r.bnds.length) :
    Calls Tryz.prog 228 #[v, .int .i64 i] w fun e w' => ∃ v', e = .returned (.tuple #[v', .bool (validR (dropRw r i))]) ∧ OwnR w.heap.size w'.heap.size w' v' (if validR (dropRw r i) = true then dropRw r i else zeroR) ∧ Below w.heap.size w w' := by
  obtain ⟨a1, c1, a2, c2, a3, c3, rfl⟩ := h.shape
  have HV := Lib.hid (validR_iff.1 hv)
  have hb8 := HV.out.b8
  have HRD := Lib.hid h
  have HVR := Lib.hid (fun X (hb : Below w.heap.size w X) => ValidRows_any _ r X (h.up hb (Nat.le_refl _)))
  rw [hv] at HVR
  have HII := Lib.hid (fun X => isIndexB_any (i : Int) r.bnds.length X (by omega))
  rw [show inB 0 ((r.bnds.length : Int) - 1) (i : Int) = true from inB_iff.2 (by omega)] at HII
  have HRW := Lib.hid (fun k (hk : k < r.bnds.length) X (hb : Below w.heap.size w X) => row_any _ r k X (h.up hb (Nat.le_refl _)) HV.out hk)
  have HRL := Lib.hid (fun k (hk : k < r.bnds.length) => rowO_len HV.out hk)
  have HDL := Lib.hid (drK_len HV.out i)
  have HD0 := Lib.hid (show drK r i 0 = ([], []) from rfl)
  have HDS := Lib.hid (fun k => show drK r i (k + 1) = if k = i then drK r i k else ((drK r i k).1 ++ rowO r k, (drK r i k).2 ++ [r.bnds.getD k 0]) from rfl)
  have HDR := Lib.hid (show dropRw r i = ⟨r.vars, (drK r i r.bnds.length).1, (drK r i r.bnds.length).2, r.gains⟩ from rfl)
  have HBC := Lib.hid (fun k (hk : k < r.bnds.length) X (hb : Below w.heap.size w X) => (h.parts.2.1.up hb (Nat.le_refl _)).at (i := k) hk)
  have HGL := Lib.hid HV.out.gl
  have hv8 := HV.out.v8
  have HG3 := Lib.hid (fun X (hb : Below w.heap.size w X) => h.parts.2.2.up hb (Nat.le_refl _))
  obtain ⟨DV, hDV⟩ : ∃ DV, DV = dropRw r i := ⟨_, rfl⟩
  rw [← hDV] at HDR ⊢
  obtain ⟨AV, hAV⟩ : ∃ AV, AV = if validR DV = true then DV else zeroR := ⟨_, rfl⟩
  obtain ⟨QV, hQV⟩ : ∃ QV, QV = validR DV := ⟨_, rfl⟩
  rw [← hAV, ← hQV]
  rw [← hQV] at hAV
  have HAV := Lib.hid hAV
  have HQV := Lib.hid hQV
  clear hAV hQV
  obtain ⟨D, hD⟩ : ∃ D, D = drK r i := ⟨_, rfl⟩
  rw [← hD] at HDL HD0 HDS HDR
  obtain ⟨rowF, hrF⟩ : ∃ f, f = rowO r := ⟨_, rfl⟩
  obtain ⟨n0, x1, x2, x3⟩ := r
  simp only at HVR HII HRW HRL HDL HDS HDR HBC HGL hb8 hi hv8 HG3 ⊢
  rw [← hrF] at HRW HRL HDS
  have hg3 : x3.length ≤ 8 := by have := HGL.out; omega
  obtain ⟨m, hm⟩ : ∃ m, m = x2.length := ⟨_, rfl⟩
  rw [← hm] at hb8 hi HVR HII HRW HRL HDL HDR HBC ⊢
  clear h hv hDV hD hrF hm
  have HRD := HRD
  go_enter Tryz.func228, Tryz.ntmps228
  go_upto_region 1 with fail
  refine wp_at fun W hW => ?_
  have HB := Lib.hid (show Below w.heap.size w W by subst hW; (repeat' first | exact Below.refl _ _ | assumption | refine Below.alloc ?_ ?_ _ | refine Below.setCell ?_ ?_ _ | refine Below.drew ?_ | (simp; done) | (simp; omega)))
  have HK := Lib.hid (show Blk W w.heap.size 26 #[.int .i64 n0, .slice a1 x1.length c1, .slice a2 m c2, .slice a3 x3.length c3] by subst hW; exact (Blk.new _ _ _).alloc _)
  have HL := Lib.hid (show Blk W (w.heap.size + 1) 26 #[.int .i64 0, .slice none 0 0, .slice none 0 0, .slice none 0 0] by subst hW; exact Blk.newB _ _ _ _ (by simp))
  have hl1 := HL.out.lt
  clear hW
  have d0 := HK.out.cell 0 rfl
  have d1 := HK.out.cell 1 rfl
  have d2 := HK.out.cell 2 rfl
  have d3 := HK.out.cell 3 rfl
  go_upto_region 3 with (first
    | (go_at_call 46; refine (HVR.out W HB.out).mono ?_; rintro e w1 ⟨rfl, hb1⟩; have hk1 := HK.out.below hb1 HK.out.lt; have d2' := hk1.cell 2 rfl)
    | (go_at_call 282; refine (HII.out _).mono ?_; rintro e w2 ⟨rfl, rfl⟩))
  have HB1 := Lib.hid (HB.out.trans (hb1.mono HB.out.size))
  have HK1 := Lib.hid hk1
  have HL1 := Lib.hid (HL.out.below hb1 hl1)
  have hz1 := hb1.size
  have hk1l := HK1.out.lt
  have hl1' := HL1.out.lt
  clear d0 d1 d2 d3 d2' hk1 hb1
  have HKEEP := Lib.hid (show ∀ X, Below w1.heap.size w1 X → X.cell? ⟨w.heap.size, 0, none⟩ = some (.int .i64 n0) ∧ X.cell? ⟨w.heap.size, 3, none⟩ = some (.slice a3 x3.length c3) ∧ Below w1.heap.size w1 X from fun X hb => by
    have k := HK1.out.below hb hk1l
    exact ⟨k.cell 0 rfl, k.cell 3 rfl, hb⟩)
  go_wp2_with fail
  go_cut [6] from 21 to 26 (fun bv wx => ∃ (bo : Nat) (bG : Option Addr) (cG : Nat), bv = .pointer (some ⟨bo, 0, none⟩) ∧ w1.heap.size ≤ bo ∧ Hid (Blk wx bo 26 #[.int .i64 n0, .slice none 0 0, .slice none 0 0, .slice bG x3.length cG]) ∧ Hid (OwnF w1.heap.size wx.heap.size wx (.slice bG x3.length cG) x3) ∧ Hid (Below w1.heap.size w1 wx))
  case first =>
    have dd := HKEEP.out w1.drew ((Below.refl _ _).drew)
    obtain ⟨d0, d3, _⟩ := dd
    have hb1d : Below w1.heap.size w1 w1.drew := (Below.refl w1.heap.size w1).drew
    have hb1a : Below w1.heap.size w1 (w1.alloc (.cells #[.int .i64 0, .slice none 0 0, .slice none 0 0, .slice none 0 0] 26)).drew := ((Below.refl w1.heap.size w1).alloc (Nat.le_refl _) _).drew
    have dd := HKEEP.out _ hb1a
    obtain ⟨d0', d3', _⟩ := dd
    go_region_law (first
      | (go_simp; go_at_call 131; refine (copyF_any _ x3 w1.drew (HG3.out _ (HB1.out.trans (hb1d.mono HB1.out.size))) (by omega)).mono ?_; rintro e wn ⟨yG, rfl, oG, hG⟩; obtain ⟨bG, cG, rfl⟩ := oG.rd.shape; have hbn : Below w1.heap.size w1 wn := hb1d.trans hG; have hnbA : Blk (wn.alloc (.cells #[.int .i64 0, .slice none 0 0, .slice none 0 0, .slice none 0 0] 26)) wn.heap.size 26 #[.int .i64 0, .slice none 0 0, .slice none 0 0, .slice none 0 0] := Blk.new _ _ _; have ⟨d0n, d3n, _⟩ := HKEEP.out wn hbn; have ⟨d0m, d3m, _⟩ := HKEEP.out _ (hbn.alloc hbn.size (.cells #[.int .i64 0, .slice none 0 0, .slice none 0 0, .slice none 0 0] 26)); have s0 := hnbA.free 0; have s1 := hnbA.free 1; have s2 := hnbA.free 2; have s3 := hnbA.free 3; have t0 := hnbA.cell 0 rfl; have t1 := hnbA.cell 1 rfl; have t2 := hnbA.cell 2 rfl; have t3 := hnbA.cell 3 rfl)
      | (go_simp; go_at_call 131; refine (copyF_any _ x3 (w1.alloc (.cells #[.int .i64 0, .slice none 0 0, .slice none 0 0, .slice none 0 0] 26)).drew (HG3.out _ (HB1.out.trans (hb1a.mono HB1.out.size))) (by omega)).mono ?_; rintro e wn ⟨yG, rfl, oG, hG⟩; obtain ⟨bG, cG, rfl⟩ := oG.rd.shape; have hbn : Below w1.heap.size w1 wn := hb1a.trans (hG.mono hb1a.size); have hnbB : Blk wn w1.heap.size 26 #[.int .i64 0, .slice none 0 0, .slice none 0 0, .slice none 0 0] := (show Blk (w1.alloc (.cells #[.int .i64 0, .slice none 0 0, .slice none 0 0, .slice none 0 0] 26)).drew w1.heap.size 26 #[.int .i64 0, .slice none 0 0, .slice none 0 0, .slice none 0 0] from Blk.new _ _ _).below hG (by simp); have ⟨d0n, d3n, _⟩ := HKEEP.out wn hbn; have ⟨d0m, d3m, _⟩ := HKEEP.out _ (hbn.alloc hbn.size (.cells #[.int .i64 0, .slice none 0 0, .slice none 0 0, .slice none 0 0] 26)); have s0 := hnbB.free 0; have s1 := hnbB.free 1; have s2 := hnbB.free 2; have s3 := hnbB.free 3; have t0 := hnbB.cell 0 rfl; have t1 := hnbB.cell 1 rfl; have t2 := hnbB.cell 2 rfl; have t3 := hnbB.cell 3 rfl))
    all_goals
      go_wp2_with fail
      go_meet
    all_goals first
      | (have hnbA := hnbA
         exact ⟨wn.heap.size, bG, cG, rfl, hbn.size, Lib.hid (Blk.new _ _ _), Lib.hid ((oG.up ((Below.refl wn.heap.size wn).alloc (Nat.le_refl _) _) (Nat.le_refl _)).wide hb1d.size (by simp)), Lib.hid (hbn.alloc hbn.size _)⟩)
      | (have hq1 := blk_fill hnbB (.int .i64 n0) (.slice none 0 0) (.slice none 0 0) (.slice bG x3.length cG)
         have hq2 := (ownF_fill oG hnbB (.int .i64 n0) (.slice none 0 0) (.slice none 0 0) (.slice bG x3.length cG)).wide (lo' := w1.heap.size) hb1a.size (hi' := (fill4 wn w1.heap.size (.int .i64 n0) (.slice none 0 0) (.slice none 0 0) (.slice bG x3.length cG)).heap.size) (by rw [fill_size]; exact Nat.le_refl _)
         have hq3 := below_fill hbn (Nat.le_refl w1.heap.size) (.int .i64 n0) (.slice none 0 0) (.slice none 0 0) (.slice bG x3.length cG)
         unfold fill4 at hq1 hq2 hq3
         exact ⟨w1.heap.size, bG, cG, rfl, Nat.le_refl _, hq1, hq2, hq3⟩)
  case rest =>
    obtain ⟨bo, bG, cG, rfl, hbo, HG0, HF0, HX0⟩ := hcut
    have hrb : Below w.heap.size w wc := HB1.out.trans (HX0.out.mono HB1.out.size)
    have d2 := (HK1.out.below HX0.out hk1l).cell 2 rfl
    clear HKEEP
    go_wp2_with fail
    go_loopw [30] (fun kv wr => ∃ (k : Nat) (y1 y2 : Option Addr) (e1 e2 : Nat), kv = .int .i64 k ∧ k ≤ m ∧ Hid (Blk wr bo 26 #[.int .i64 n0, .slice y1 (D k).1.length e1, .slice y2 (D k).2.length e2, .slice bG x3.length cG]) ∧ Hid (OwnR w1.heap.size wr.heap.size wr (.agg #[.int .i64 n0, .slice y1 (D k).1.length e1, .slice y2 (D k).2.length e2, .slice bG x3.length cG]) ⟨n0, (D k).1, (D k).2, x3⟩) ∧ Hid (Below w1.heap.size w1 wr)) (fun kv _ => m + 1 - (intOf kv).toNat)
    case atStart =>
      refine ⟨0, none, none, 0, 0, rfl, Nat.zero_le _, Lib.hid (by rw [HD0.out]; exact HG0.out), Lib.hid ?_, HX0⟩
      rw [HD0.out]
      have o : OwnF w1.heap.size wc.heap.size wc (.slice none 0 0) [] := ⟨World.ownsRow_nil _ _ _ _, by intro g hg; cases hg⟩
      exact ⟨_, _, _, rfl, o, o, HF0.out, (by intro g hg; cases hg), (by intro g hg; cases hg), (by intro g hg; cases hg)⟩
    case round =>
      obtain ⟨k, y1, y2, e1, e2, rfl, hk, HG, HO, HX⟩ := hrel
      obtain ⟨wo, rfl⟩ : ∃ wo, wo = wr := ⟨wr, rfl⟩
      have hgl := HG.out.lt
      have hzo := HX.out.size
      by_cases hlt : k < m
      · have hltI : (k : Int) < (m : Int) := by omega
        have HRB := Lib.hid (show Below w.heap.size w wo from HB1.out.trans (HX.out.mono HB1.out.size))
        obtain ⟨b2, o2, rfl, _, c2'⟩ := HBC.out k hlt wo HRB.out
        have hDS := HDS.out k
        have hDL := HDL.out k (by omega)
        by_cases hki : k = i
        · have hkd : ((k : Int) != (i : Int)) = false := by simp [hki]
          rw [if_pos hki] at hDS
          have HDE := Lib.hid hDS
          clear hDS hki
          go_wp2_with fail
          go_roundw
          case rel => exact ⟨k + 1, y1, y2, e1, e2, by go_num, by omega, Lib.hid (by rw [HDE.out]; exact HG.out), Lib.hid (by rw [HDE.out]; exact HO.out), HX⟩
          case measure => simp [intOf]; omega
        · have hkd : ((k : Int) != (i : Int)) = true := by simp; omega
          rw [if_neg hki] at hDS
          obtain ⟨bd, hbd⟩ : ∃ bd, bd = x2.getD k 0 := ⟨_, rfl⟩
          rw [← hbd] at c2' hDS
          have HDE := Lib.hid hDS
          have hrl := HRL.out k hlt
          have HRK := Lib.hid (HRW.out k hlt)
          obtain ⟨rw', hrw⟩ : ∃ rw', rw' = rowF k := ⟨_, rfl⟩
          rw [← hrw] at HDE hrl HRK
          obtain ⟨⟨D1, D2⟩, hDD⟩ : ∃ p, p = D k := ⟨_, rfl⟩
          rw [← hDD] at HDE hDL HG HO
          simp only at HDE hDL HG HO
          have hD1 : D1.length ≤ 64 := by omega
          have hD2 : D2.length ≤ 8 := by omega
          have hrl8 : rw'.length ≤ 8 := by omega
          clear hDS hki hbd hrw hDD hrl
          have g0 := HG.out.cell 0 rfl
          have g1 := HG.out.cell 1 rfl
          have g2 := HG.out.cell 2 rfl
          have g3 := HG.out.cell 3 rfl
          go_upto_region 9 with (at_builtin; refine app_fltsL rfl _ _ rfl w1.heap.size (.slice y2 D2.length e2) D2.length D2 rfl (HO.out.up ((Below.refl wo.heap.size wo).alloc (Nat.le_refl _) _) (Nat.le_refl _)).parts.2.1.1 _ [bd] rfl (slcF_one wo bd) (D2.length + 1) (D2 ++ [bd]) rfl rfl (by omega) (by simp; omega) ?_; intro y2' e2' w7 hown7 hbl7 hg7 hl7; have HG7 := Lib.hid (blk_grown (HG.out.alloc (.cells #[.float .f32 bd] 100)) hg7 ((HG.out.alloc (.cells #[.float .f32 bd] 100)).not_owned (HO.out.up ((Below.refl wo.heap.size wo).alloc (Nat.le_refl _) _) (Nat.le_refl _)).parts.2.1.1 (by decide))); have q1 := HG7.out.cell 2 rfl; have q2 := HG7.out.free 2)
          refine wp_at fun W8 hW8 => ?_
          have HO8' := ownR_set (ownR_app2 (HO.out.up ((Below.refl wo.heap.size wo).alloc (Nat.le_refl _) (.cells #[.float .f32 bd] 100)) (Nat.le_refl _)) (by simp) hg7 hown7 hl7) HG7.out 2 (.slice y2' (D2.length + 1) e2')
          have HO8 := Lib.hid (show OwnR w1.heap.size W8.heap.size W8 (.agg #[.int .i64 n0, .slice y1 D1.length e1, .slice y2' (D2.length + 1) e2', .slice bG x3.length cG]) ⟨n0, D1, D2 ++ [bd], x3⟩ by subst hW8; simpa using HO8')
          have HG8 := Lib.hid (show Blk W8 bo 26 #[.int .i64 n0, .slice y1 D1.length e1, .slice y2' (D2.length + 1) e2', .slice bG x3.length cG] by subst hW8; simpa using HG7.out.set 2 (.slice y2' (D2.length + 1) e2'))
          have HB8 := Lib.hid (show Below w1.heap.size w1 W8 by subst hW8; exact ((HX.out.alloc hzo _).trans hbl7).setCell hbo _)
          clear hW8 HO8' hown7 hbl7 hg7 hl7 q1 q2 HG7 g0 g1 g2 g3 c2'
          have HR8 := Lib.hid (HK1.out.below HB8.out hk1l)
          have hz8 := HB8.out.size
          have hgl8 := HG8.out.lt
          have g1 : W8.drew.cell? ⟨bo, 1, none⟩ = some (.slice y1 D1.length e1) := HG8.out.cell 1 rfl
          have r0 : W8.drew.cell? ⟨w.heap.size, 0, none⟩ = some (.int .i64 n0) := HR8.out.cell 0 rfl
          have r1 : W8.drew.cell? ⟨w.heap.size, 1, none⟩ = some (.slice a1 x1.length c1) := HR8.out.cell 1 rfl
          have r2 : W8.drew.cell? ⟨w.heap.size, 2, none⟩ = some (.slice (some ⟨b2, o2, none⟩) m c2) := HR8.out.cell 2 rfl
          have r3 : W8.drew.cell? ⟨w.heap.size, 3, none⟩ = some (.slice a3 x3.length c3) := HR8.out.cell 3 rfl
          have HRB8 : Below w.heap.size w W8.drew := (HB1.out.trans (HB8.out.mono HB1.out.size)).drew
          have HGD := Lib.hid (show Blk W8.drew bo 26 #[.int .i64 n0, .slice y1 D1.length e1, .slice y2' (D2.length + 1) e2', .slice bG x3.length cG] from HG8.out)
          have HOD := Lib.hid (show OwnR w1.heap.size W8.heap.size W8.drew (.agg #[.int .i64 n0, .slice y1 D1.length e1, .slice y2' (D2.length + 1) e2', .slice bG x3.length cG]) ⟨n0, D1, D2 ++ [bd], x3⟩ from HO8.out)
          go_region_law (first
            | (go_simp; go_at_call 75; refine (HRK.out W8.drew HRB8).mono ?_; rintro e wn ⟨ru, rfl, hru, hbn⟩; have HGn := HGD.out.below hbn hgl8; have q1n := HGn.cell 1 rfl; have hOn := HOD.out.up hbn (Nat.le_refl _))
            | (refine step_app_fltsL rfl (.tmp 45) (.tmp 48) (by rfl) w1.heap.size (.slice y1 D1.length e1) D1.length D1 (by rfl) hOn.parts.1.1 _ rw' (by rfl) hru (D1.length + rw'.length) (D1 ++ rw') rfl rfl (by omega) (Nat.le_trans hz8 hbn.size) ?_; intro y1' e1' w9 hown9 hbl9 hg9 hl9; have HG9 := blk_grown HGn hg9 (HGn.not_owned hOn.parts.1.1 (by decide)); have q9 := HG9.cell 1 rfl; have f9 := HG9.free 1))
          all_goals
            have hz9 := hbl9.size
            have HOA := Lib.hid (ownR_set (ownR_app1 hOn hbn.size hg9 hown9 hl9) HG9 1 (.slice y1' (D1.length + rw'.length) e1'))
            have HGA := Lib.hid (show Blk (w9.setCell ⟨bo, 1, none⟩ (.slice y1' (D1.length + rw'.length) e1')) bo 26 #[.int .i64 n0, .slice y1' (D1.length + rw'.length) e1', .slice y2' (D2.length + 1) e2', .slice bG x3.length cG] by simpa using HG9.set 1 (.slice y1' (D1.length + rw'.length) e1'))
            have HBA := Lib.hid (show Below w1.heap.size w1 (w9.setCell ⟨bo, 1, none⟩ (.slice y1' (D1.length + rw'.length) e1')) from (((HB8.out.drew).trans (hbn.mono hz8)).trans hbl9).setCell hbo _)
            have HL1 := Lib.hid (show (D (k + 1)).1.length = D1.length + rw'.length by rw [HDE.out]; simp)
            have HL2 := Lib.hid (show (D (k + 1)).2.length = D2.length + 1 by rw [HDE.out]; simp)
            go_wp2_with fail
            go_roundw
            case rel =>
              refine ⟨k + 1, y1', y2', e1', e2', by go_num, by omega, Lib.hid (by rw [HL1.out, HL2.out]; exact HGA.out), Lib.hid ?_, HBA⟩
              rw [HL1.out, HL2.out, HDE.out]
              simpa using HOA.out
            case measure => simp [intOf]; omega
      · obtain rfl : k = m := by omega
        have g0 := HG.out.cell 0 rfl
        have g1 := HG.out.cell 1 rfl
        have g2 := HG.out.cell 2 rfl
        have g3 := HG.out.cell 3 rfl
        have HDV := Lib.hid (show DV = ⟨n0, (D k).1, (D k).2, x3⟩ by rw [HDR.out])
        have HCK := Lib.hid (checked_any _ DV wo (by rw [HDV.out]; exact HO.out.rd))
        have HOV := Lib.hid (show OwnR w1.heap.size wo.heap.size wo (.agg #[.int .i64 n0, .slice y1 (D k).1.length e1, .slice y2 (D k).2.length e2, .slice bG x3.length cG]) DV by rw [HDV.out]; exact HO.out)
        obtain ⟨z1, hz1'⟩ : ∃ z, z = (D k).1.length := ⟨_, rfl⟩
        obtain ⟨z2, hz2'⟩ : ∃ z, z = (D k).2.length := ⟨_, rfl⟩
        rw [← hz1'] at g1 HCK HOV
        rw [← hz2'] at g2 HCK HOV
        rw [← HQV.out] at HCK
        clear hz1' hz2' HG HO HQV
        have FIN : ∀ Wx Wf, Below wo.heap.size wo Wx → Kept (· = w.heap.size + 1) Wx Wf → Below w.heap.size w Wf := fun Wx Wf hb hk => by
          have h1 : Below w.heap.size w Wx := HB1.out.trans ((HX.out.trans (hb.mono hzo)).mono HB1.out.size)
          exact h1.trans (hk.toBelow h1.size (by intro k h1 h2; omega))
        have HFIN := Lib.hid FIN
        clear FIN
        go_wp2_with fail
        refine HCK.out.mono ?_
        rintro e w9 ⟨rfl, hb9⟩
        have hlc := (HL1.out.below HX.out hl1').below hb9 (by omega)
        have e0 := hlc.cell 0 rfl
        have e1' := hlc.cell 1 rfl
        have e2' := hlc.cell 2 rfl
        have e3 := hlc.cell 3 rfl
        have f0 := hlc.free 0
        have f1 := hlc.free 1
        have f2 := hlc.free 2
        have f3 := hlc.free 3
        have HO9 := Lib.hid (HOV.out.up hb9 (Nat.le_refl _))
        have HB9 := Lib.hid hb9
        have hz9 := hb9.size
        have hl9 := hlc.lt
        clear hlc hb9 g0 g1 g2 g3
        cases QV
        · go_wp2_with fail
          refine bodyPost_ret (v := .tuple #[.agg #[.int .i64 0, .slice none 0 0, .slice none 0 0, .slice none 0 0], .bool false]) (by simp [results, Tryz.results228, go_sem, *]) rfl ?_
          refine ⟨_, rfl, by rw [HAV.out, if_neg Bool.false_ne_true]; exact ownR_zero _ _ _, HFIN.out w9 _ HB9.out ?_⟩
          repeat' first | exact Kept.refl _ _ | refine Kept.setCell ?_ (.inr (by simp)) _
        · go_wp2_with fail
          refine bodyPost_ret (v := .tuple #[.agg #[.int .i64 n0, .slice y1 z1 e1, .slice y2 z2 e2, .slice bG x3.length cG], .bool true]) (by simp [results, Tryz.results228, go_sem, *]) rfl ?_
          suffices hF : ∀ Wf, Kept (· = w.heap.size + 1) w9 Wf → ∃ v', Ending.returned (.tuple #[.agg #[.int .i64 n0, .slice y1 z1 e1, .slice y2 z2 e2, .slice bG x3.length cG], .bool true]) = .returned (.tuple #[v', .bool true]) ∧ OwnR w.heap.size Wf.heap.size Wf v' AV ∧ Below w.heap.size w Wf by
            refine hF _ ?_
            repeat' first | exact Kept.refl _ _ | refine Kept.setCell ?_ (.inr (by simp)) _
          intro Wf hK
          refine ⟨_, rfl, ?_, HFIN.out w9 Wf HB9.out hK⟩
          rw [show AV = DV by rw [HAV.out]; simp]
          have hz := hK.size
          have hbz := HB1.out.size
          exact (HO9.out.kept hK (by intro b h1 h2 h3; omega)).wide (by omega) (by omega)
set_option maxHeartbeats 2000000 in
set_option maxRecDepth 4000 in
theorem dropI_any (v : Value) (r : RowsD) (i : Int) (w : World) (h : RdR w v r) :
    Calls Tryz.prog 228 #[v, .int .i64 i] w fun e w' => ∃ v', e = .returned (.tuple #[v', .bool (dropOk r i)]) ∧ OwnR w.heap.size w'.heap.size w' v' (dropV r i) ∧ Below w.heap.size w w' := by
  have HF := Lib.hid (show dropOk r i = (validR r && (inB 0 ((r.bnds.length : Int) - 1) i && validR (dropRw r i.toNat))) from rfl)
  have HG := Lib.hid (show dropV r i = if dropOk r i = true then dropRw r i.toNat else zeroR from rfl)
  by_cases hq : (validR r && inB 0 ((r.bnds.length : Int) - 1) i) = true
  · rw [Bool.and_eq_true] at hq
    obtain ⟨h1, h2⟩ := hq
    have h3 := inB_iff.1 h2
    obtain ⟨k, rfl⟩ := Int.eq_ofNat_of_zero_le h3.1
    have e : dropOk r (k : Int) = validR (dropRw r k) := by rw [HF.out, h1, h2, Int.toNat_natCast]; rfl
    rw [HG.out, e, Int.toNat_natCast]
    exact dropYes_any v r k w h h1 (by omega)
  · have hqf : (validR r && inB 0 ((r.bnds.length : Int) - 1) i) = false := by simpa using hq
    have e : dropOk r i = false := by
      rw [HF.out, ← Bool.and_assoc, hqf]; rfl
    have e2 : dropV r i = zeroR := by rw [HG.out, e]; rfl
    rw [e, e2]
    have HQF := Lib.hid hqf
    have HVR := Lib.hid (fun X (hb : Below w.heap.size w X) => ValidRows_any v r X (h.up hb (Nat.le_refl _)))
    have HB8 := Lib.hid (fun (hv : validR r = true) => (validR_iff.1 hv).b8)
    obtain ⟨q1, h1⟩ : ∃ q, validR r = q := ⟨_, rfl⟩
    rw [h1] at HVR HQF HB8
    obtain ⟨a1, c1, a2, c2, a3, c3, rfl⟩ := h.shape
    obtain ⟨n0, x1, x2, x3⟩ := r
    simp only at HVR HQF HB8 ⊢
    obtain ⟨m, hm⟩ : ∃ m, m = x2.length := ⟨_, rfl⟩
    rw [← hm] at HVR HQF HB8 ⊢
    clear h hq hqf e e2 HF HG h1 hm
    go_enter Tryz.func228, Tryz.ntmps228
    go_upto_region 1 with fail
    refine wp_at fun W hW => ?_
    have HB := Lib.hid (show Below w.heap.size w W by subst hW; (repeat' first | exact Below.refl _ _ | assumption | refine Below.alloc ?_ ?_ _ | refine Below.setCell ?_ ?_ _ | refine Below.drew ?_ | (simp; done) | (simp; omega)))
    have HK := Lib.hid (show Blk W w.heap.size 26 #[.int .i64 n0, .slice a1 x1.length c1, .slice a2 m c2, .slice a3 x3.length c3] by subst hW; exact (Blk.new _ _ _).alloc _)
    have HL := Lib.hid (show Blk W (w.heap.size + 1) 26 #[.int .i64 0, .slice none 0 0, .slice none 0 0, .slice none 0 0] by subst hW; exact Blk.newB _ _ _ _ (by simp))
    have hl1 := HL.out.lt
    clear hW
    have d0 := HK.out.cell 0 rfl
    have d1 := HK.out.cell 1 rfl
    have d2 := HK.out.cell 2 rfl
    have d3 := HK.out.cell 3 rfl
    have FIN : ∀ w1 Wf, Below W.heap.size W w1 → Kept (· = w.heap.size + 1) w1 Wf → ∃ v', Ending.returned (.tuple #[.agg #[.int .i64 0, .slice none 0 0, .slice none 0 0, .slice none 0 0], .bool false]) = .returned (.tuple #[v', .bool false]) ∧ OwnR w.heap.size Wf.heap.size Wf v' zeroR ∧ Below w.heap.size w Wf := fun w1 Wf hb hk => by
      have h1 : Below w.heap.size w w1 := HB.out.trans (hb.mono HB.out.size)
      exact ⟨_, rfl, ownR_zero _ _ _, h1.trans (hk.toBelow h1.size (by intro k h1 h2; omega))⟩
    have HFIN := Lib.hid FIN
    clear FIN
    cases q1
    · go_wp2_with (go_at_call 46; refine (HVR.out W HB.out).mono ?_; rintro e w1 ⟨rfl, hb1⟩; have hk1 := HL.out.below hb1 hl1; have e0 := hk1.cell 0 rfl; have e1 := hk1.cell 1 rfl; have e2 := hk1.cell 2 rfl; have e3 := hk1.cell 3 rfl; have f0 := hk1.free 0; have f1 := hk1.free 1; have f2 := hk1.free 2; have f3 := hk1.free 3)
      refine bodyPost_ret (v := .tuple #[.agg #[.int .i64 0, .slice none 0 0, .slice none 0 0, .slice none 0 0], .bool false]) (by simp [results, Tryz.results228, go_sem, *]) rfl (HFIN.out w1 _ hb1 ?_)
      repeat' first | exact Kept.refl _ _ | refine Kept.setCell ?_ (.inr (by simp)) _
    · have hb8 := HB8.out (by first | rfl | trivial)
      have hiF : inB 0 ((m : Int) - 1) i = false := by have := HQF.out; simpa using this
      have HII := Lib.hid (fun X => isIndexB_any i m X (by omega))
      rw [hiF] at HII
      clear hiF HQF HB8
      go_wp2_with (first
        | (go_at_call 46; refine (HVR.out W HB.out).mono ?_; rintro e w1 ⟨rfl, hb1⟩; have hk1 := HL.out.below hb1 hl1; have e0 := hk1.cell 0 rfl; have e1 := hk1.cell 1 rfl; have e2 := hk1.cell 2 rfl; have e3 := hk1.cell 3 rfl; have f0 := hk1.free 0; have f1 := hk1.free 1; have f2 := hk1.free 2; have f3 := hk1.free 3; have d2' := (HK.out.below hb1 HK.out.lt).cell 2 rfl)
        | (go_at_call 282; refine (HII.out _).mono ?_; rintro e w2 ⟨rfl, rfl⟩))
      refine bodyPost_ret (v := .tuple #[.agg #[.int .i64 0, .slice none 0 0, .slice none 0 0, .slice none 0 0], .bool false]) (by simp [results, Tryz.results228, go_sem, *]) rfl (HFIN.out w1 _ hb1 ?_)
      repeat' first | exact Kept.refl _ _ | refine Kept.setCell ?_ (.inr (by simp)) _
end Go.Proofs.YtgkbbpajkbkgnaaGreatDoor

namespace Go.Proofs.YtgkbbpajkbkgnaaGreatDoor
open Go.RowKit
theorem bits_nil : BitsF [] := by intro z hz; cases hz
theorem bits_app {a b : List Nat} (ha : BitsF a) (hb : BitsF b) : BitsF (a ++ b) := by
  intro z hz
  rw [List.mem_append] at hz
  rcases hz with h | h
  · exact ha z h
  · exact hb z h
theorem bits_one {x : Nat} (h : x < 4294967296) : BitsF [x] := by
  intro z hz
  rw [List.mem_singleton] at hz
  subst hz; exact h
theorem bits_sub {a b : List Nat} (ha : BitsF a) (h : ∀ x ∈ b, x ∈ a) : BitsF b := fun z hz => ha z (h z hz)
theorem bits_get {a : List Nat} (ha : BitsF a) (i : Nat) : a.getD i 0 < 4294967296 := by
  rw [List.getD_eq_getElem?_getD]
  by_cases h : i < a.length
  · rw [List.getElem?_eq_getElem h]
    exact ha _ (List.getElem_mem _)
  · rw [List.getElem?_eq_none (by omega)]
    decide
theorem bits_map {α : Type} {l : List α} {f : α → Nat} (h : ∀ x ∈ l, f x < 4294967296) : BitsF (l.map f) := by
  intro z hz
  rw [List.mem_map] at hz
  obtain ⟨x, hx, rfl⟩ := hz
  exact h x hx
theorem bits_set {a : List Nat} (ha : BitsF a) (i : Nat) {x : Nat} (hx : x < 4294967296) : BitsF (a.set i x) := by
  intro z hz
  rcases List.mem_or_eq_of_mem_set hz with h | h
  · exact ha z h
  · subst h; exact hx
theorem bits_rep (n : Nat) {x : Nat} (hx : x < 4294967296) : BitsF (List.replicate n x) := by
  intro z hz
  rw [List.mem_replicate] at hz
  obtain ⟨_, rfl⟩ := hz
  exact hx
theorem w32 : 2 ^ Ieee.single.width = 4294967296 := by decide
theorem sub_bits {x y r : Nat} (h : Ieee.single.sub x y = some r) : r < 4294967296 := by have := Ieee.Format.sub_lt Ieee.single h; rwa [w32] at this
theorem add_bits {x y r : Nat} (h : Ieee.single.add x y = some r) : r < 4294967296 := by have := Ieee.Format.add_lt Ieee.single h; rwa [w32] at this
theorem div_bits (x y : Nat) : divV x y < 4294967296 := by
  unfold divV
  cases h : Ieee.single.div x y with
  | none => decide
  | some r => have := Ieee.Format.div_lt Ieee.single h; rw [w32] at this; exact this
theorem neg_bits {x : Nat} (h : x < 4294967296) : negF x < 4294967296 := by
  show x ^^^ 2 ^ 31 < 4294967296
  exact Nat.xor_lt_two_pow (n := 32) h (by decide)
theorem one_bits : oneF < 4294967296 := by decide
def BitsT (t : TabD) : Prop := BitsF t.nums
theorem at_bits {t : TabD} (h : BitsT t) (i k : Nat) : atT t i k < 4294967296 := bits_get h _
theorem own_bits (t : TabD) (row col c : Nat) : ownV t row col c < 4294967296 := by
  unfold ownV
  split
  · exact one_bits
  · exact div_bits _ _
theorem cell_bits (t : TabD) (row col i c : Nat) : (cellO t row col i c).getD 0 < 4294967296 := by
  unfold cellO othO
  split
  · exact own_bits _ _ _ _
  · split
    · decide
    · cases h : Ieee.single.mul (atT t i col) (ownV t row col c) with
      | none => show 0 < 4294967296; decide
      | some q =>
        simp only [Option.bind_some]
        cases h2 : Ieee.single.sub (atT t i c) q with
        | none => decide
        | some r => exact sub_bits h2
theorem piv_bits (t : TabD) (row col : Nat) : BitsT (pivT t row col) := by
  unfold BitsT pivT pivO
  simp only [List.map_map]
  exact bits_map fun x _ => cell_bits t row col _ _
theorem solve_bits {near : Nat} : ∀ (F : Nat) (t t' : TabD), BitsT t → solveO near F t = some t' → BitsT t'
  | 0, t, t', h, e => by
    simp only [solveO] at e
    split at e
    · cases e; exact h
    · cases e
  | F + 1, t, t', h, e => by
    simp only [solveO] at e
    split at e
    · cases e; exact h
    · split at e
      · cases e
      · split at e
        · exact solve_bits F _ t' (piv_bits _ _ _) e
        · cases e
theorem rowO_bits {r : RowsD} (h : BitsF r.nums) (i : Nat) : BitsF (rowO r i) := by
  unfold rowO
  exact bits_sub h fun x hx => List.mem_of_mem_drop (List.mem_of_mem_take hx)
theorem tabN_bits {r : RowsD} (h1 : BitsF r.nums) (h2 : BitsF r.bnds) : ∀ i, BitsF (tabN r i)
  | 0 => bits_nil
  | i + 1 => by
    have ih := tabN_bits h1 h2 i
    refine bits_app ih (bits_app (bits_app (rowO_bits h1 i) ?_) (bits_one (bits_get h2 i)))
    unfold unitsL
    refine bits_map fun k _ => ?_
    split
    · exact one_bits
    · decide
theorem table_bits {r : RowsD} (h1 : BitsF r.nums) (h2 : BitsF r.bnds) (h3 : BitsF r.gains) : BitsT (tableT r) := by
  unfold BitsT tableT tabG
  refine bits_app (bits_app (tabN_bits h1 h2 _) (bits_map fun x hx => neg_bits (h3 x (List.mem_of_mem_take hx)))) (bits_rep _ (by decide))
theorem solved_bits {r : RowsD} {most : Int} {near : Nat} {t : TabD} (h1 : BitsF r.nums) (h2 : BitsF r.bnds) (h3 : BitsF r.gains) (h : solvO r most near = some t) : BitsT t := by
  unfold solvO at h
  split at h
  · exact solve_bits _ _ _ (table_bits h1 h2 h3) h
  · cases h
theorem plan_bits {t : TabD} (h : BitsT t) : ∀ i, BitsF (planK t i)
  | 0 => bits_rep _ (by decide)
  | i + 1 => by
    have ih := plan_bits h i
    simp only [planK]
    split
    · exact bits_set ih _ (at_bits h _ _)
    · exact ih
theorem price_bits {t : TabD} (h : BitsT t) : BitsF (priceT t) := by
  unfold priceT priceK
  exact bits_map fun c _ => at_bits h _ _
theorem dot_bits (a b : List Nat) : ∀ k r, dotO a b k = some r → r < 4294967296
  | 0, r, h => by cases h; decide
  | k + 1, r, h => by
    simp only [dotO] at h
    cases hs : dotO a b k with
    | none => rw [hs] at h; cases h
    | some s =>
      rw [hs] at h
      simp only [Option.bind_some] at h
      cases hm : Ieee.single.mul (a.getD k 0) (b.getD k 0) with
      | none => rw [hm] at h; cases h
      | some p =>
        rw [hm] at h
        exact add_bits h
theorem gain_bits (r : RowsD) (x : List Nat) : gainV r x < 4294967296 := by
  unfold gainV
  split
  · unfold gainO
    cases h : dotO r.gains x r.gains.length with
    | none => decide
    | some s => exact dot_bits _ _ _ _ h
  · decide
def BitsR (r : RowsD) : Prop := BitsF r.nums ∧ BitsF r.bnds ∧ BitsF r.gains
theorem zeroR_bits : BitsR zeroR := ⟨bits_nil, bits_nil, bits_nil⟩
theorem scale_bits {r : RowsD} (h : BitsR r) : BitsR (scaleV r) := by
  unfold scaleV
  split
  · refine ⟨?_, ?_, h.2.2⟩
    · show BitsF (stN r r.nums.length)
      unfold stN scN
      refine bits_map fun j _ => ?_
      split
      · split
        · exact div_bits _ _
        · exact bits_get h.1 _
      · exact bits_get h.1 _
    · show BitsF (stB r r.bnds.length)
      unfold stB scB
      refine bits_map fun j _ => ?_
      split
      · split
        · exact div_bits _ _
        · exact bits_get h.2.1 _
      · exact bits_get h.2.1 _
  · exact zeroR_bits
theorem dropK_bits {r : RowsD} (h : BitsR r) (i : Nat) : ∀ k, BitsF (drK r i k).1 ∧ BitsF (drK r i k).2
  | 0 => ⟨bits_nil, bits_nil⟩
  | k + 1 => by
    have ih := dropK_bits h i k
    simp only [drK]
    split
    · exact ih
    · exact ⟨bits_app ih.1 (rowO_bits h.1 k), bits_app ih.2 (bits_one (bits_get h.2.1 k))⟩
theorem drop_bits {r : RowsD} (h : BitsR r) (i : Int) : BitsR (dropV r i) := by
  unfold dropV
  split
  · exact ⟨(dropK_bits h _ _).1, (dropK_bits h _ _).2, h.2.2⟩
  · exact zeroR_bits
theorem flt_bits (s : ByteArray) : BitsF (fltV s) := by
  unfold fltV
  split
  · exact bits_map fun x _ => accH_lt x 8
  · exact bits_nil
theorem rdr_bits (s : ByteArray) : BitsR (rdrV s) := by
  unfold rdrV
  split
  · exact ⟨flt_bits _, flt_bits _, flt_bits _⟩
  · exact zeroR_bits
end Go.Proofs.YtgkbbpajkbkgnaaGreatDoor

namespace Go.Proofs.YtgkbbpajkbkgnaaGreatDoor
open Go.RowKit
def fillJ (n room : Nat) (t : List Int) : Nat → List Int
  | 0 => t
  | j + 1 => (fillJ n room t j).set (room - j) ((fillJ n room t j).getD (room - j) 0 + (fillJ n room t j).getD (room - j - n) 0)
def fillOne (n room : Nat) (t : List Int) : List Int := fillJ n room t (room + 1 - n)
def fillK (xs : List Int) (room : Nat) : Nat → List Int
  | 0 => (List.replicate (room + 1) 0).set 0 1
  | k + 1 => fillOne (xs.getD k 0).toNat room (fillK xs room k)
theorem fillJ_len (n room : Nat) (t : List Int) : ∀ j, (fillJ n room t j).length = t.length
  | 0 => rfl
  | j + 1 => by
    show ((fillJ n room t j).set _ _).length = _
    rw [List.length_set, fillJ_len n room t j]
theorem fillK_len (xs : List Int) (room : Nat) : ∀ k, (fillK xs room k).length = room + 1
  | 0 => by simp [fillK]
  | k + 1 => by
    show (fillJ _ room _ _).length = _
    rw [fillJ_len, fillK_len xs room k]
theorem getD_set' (l : List Int) (i j : Nat) (x : Int) : (l.set i x).getD j 0 = if i = j ∧ i < l.length then x else l.getD j 0 := by
  simp only [List.getD_eq_getElem?_getD, List.getElem?_set]
  by_cases h : i = j
  · subst h
    by_cases h2 : i < l.length
    · simp [h2]
    · simp [h2]
  · simp [h]
theorem fillJ_rng {n room : Nat} {t : List Int} {B : Int} (hn : 1 ≤ n) (ht : ∀ i, 0 ≤ t.getD i 0 ∧ t.getD i 0 ≤ B) : ∀ j, j ≤ room + 1 → (∀ i, 0 ≤ (fillJ n room t j).getD i 0 ∧ (fillJ n room t j).getD i 0 ≤ 2 * B) ∧ ∀ i, i + j < room + 1 → (fillJ n room t j).getD i 0 = t.getD i 0
  | 0, _ => ⟨fun i => by have := ht i; show 0 ≤ t.getD i 0 ∧ t.getD i 0 ≤ 2 * B; omega, fun i _ => rfl⟩
  | j + 1, hj => by
    obtain ⟨h1, h2⟩ := fillJ_rng (room := room) hn ht j (by omega)
    refine ⟨fun i => ?_, fun i hi => ?_⟩
    · show 0 ≤ ((fillJ n room t j).set _ _).getD i 0 ∧ ((fillJ n room t j).set _ _).getD i 0 ≤ 2 * B
      rw [getD_set']
      split
      · rw [h2 (room - j) (by omega)]
        have a := ht (room - j)
        by_cases e : n ≤ room - j
        · rw [h2 (room - j - n) (by omega)]
          have b := ht (room - j - n)
          omega
        · by_cases e0 : j = 0
          · subst e0
            have b := ht (room - 0 - n)
            show 0 ≤ _ + t.getD (room - 0 - n) 0 ∧ _ + t.getD (room - 0 - n) 0 ≤ 2 * B
            omega
          · rw [h2 (room - j - n) (by omega)]
            have b := ht (room - j - n)
            omega
      · exact h1 i
    · show ((fillJ n room t j).set _ _).getD i 0 = _
      rw [getD_set', if_neg (by omega)]
      exact h2 i (by omega)
theorem fillK_rng {xs : List Int} (hx : ∀ x ∈ xs, 1 ≤ x) (room : Nat) : ∀ k, k ≤ xs.length → ∀ i, 0 ≤ (fillK xs room k).getD i 0 ∧ (fillK xs room k).getD i 0 ≤ 2 ^ k
  | 0, _, i => by
    show 0 ≤ ((List.replicate (room + 1) (0:Int)).set 0 1).getD i 0 ∧ ((List.replicate (room + 1) (0:Int)).set 0 1).getD i 0 ≤ 2 ^ 0
    rw [getD_set']
    split
    · decide
    · have : (List.replicate (room + 1) (0:Int)).getD i 0 = 0 := by
        rw [List.getD_eq_getElem?_getD, List.getElem?_replicate]
        split <;> rfl
      rw [this]
      decide
  | k + 1, hk, i => by
    have ih := fillK_rng hx room k (by omega)
    have h1 : 1 ≤ (xs.getD k 0).toNat := by
      have : xs.getD k 0 ∈ xs := by
        rw [List.getD_eq_getElem?_getD, List.getElem?_eq_getElem (by omega)]
        exact List.getElem_mem _
      have := hx _ this
      omega
    have := (fillJ_rng (room := room) h1 ih (room + 1 - (xs.getD k 0).toNat) (by omega)).1 i
    show 0 ≤ (fillJ _ _ _ _).getD i 0 ∧ (fillJ _ _ _ _).getD i 0 ≤ 2 ^ (k + 1)
    rw [Int.pow_succ]
    omega
def fillB (xs : List Int) (room : Int) : Bool := areSizesB xs && inB 0 1000 room
def fillN (xs : List Int) (room : Int) : Int := if fillB xs room = true then (fillK xs room.toNat xs.length).getD room.toNat 0 else 0
end Go.Proofs.YtgkbbpajkbkgnaaGreatDoor

namespace Go.Proofs.YtgkbbpajkbkgnaaGreatDoor
open Go.RowKit
def fewK (rec : List Int → Int) (s : Int) (bins : List Int) (b : Int) : Nat → Int
  | 0 => b
  | k + 1 => if bins.getD k 0 < s then fewK rec s bins b k else min (fewK rec s bins b k) (rec (bins.set k (bins.getD k 0 - s)))
def fewR (xs : List Int) (room : Int) : Nat → List Int → Int
  | 0, bins => bins.length
  | f + 1, bins => fewK (fewR xs room f) (xs.getD (xs.length - (f + 1)) 0) bins (fewR xs room f (bins ++ [room - xs.getD (xs.length - (f + 1)) 0])) bins.length
theorem fewK_le {rec : List Int → Int} {s : Int} {bins : List Int} {b : Int} : ∀ k, fewK rec s bins b k ≤ b ∧ ∀ j, j < k → ¬ bins.getD j 0 < s → fewK rec s bins b k ≤ rec (bins.set j (bins.getD j 0 - s))
  | 0 => ⟨Int.le_refl _, fun j h => by omega⟩
  | k + 1 => by
    obtain ⟨h1, h2⟩ := fewK_le (rec := rec) (s := s) (bins := bins) (b := b) k
    simp only [fewK]
    split
    · rename_i h
      refine ⟨h1, fun j hj hs => ?_⟩
      by_cases e : j = k
      · subst e; exact absurd h hs
      · exact h2 j (by omega) hs
    · refine ⟨Int.le_trans (Int.min_le_left _ _) h1, fun j hj hs => ?_⟩
      by_cases e : j = k
      · subst e; exact Int.min_le_right _ _
      · exact Int.le_trans (Int.min_le_left _ _) (h2 j (by omega) hs)
theorem fewK_is {rec : List Int → Int} {s : Int} {bins : List Int} {b : Int} : ∀ k, fewK rec s bins b k = b ∨ ∃ j, j < k ∧ ¬ bins.getD j 0 < s ∧ fewK rec s bins b k = rec (bins.set j (bins.getD j 0 - s))
  | 0 => .inl rfl
  | k + 1 => by
    have ih := fewK_is (rec := rec) (s := s) (bins := bins) (b := b) k
    have up : (fewK rec s bins b k = b ∨ ∃ j, j < k ∧ ¬ bins.getD j 0 < s ∧ fewK rec s bins b k = rec (bins.set j (bins.getD j 0 - s))) → (fewK rec s bins b k = b ∨ ∃ j, j < k + 1 ∧ ¬ bins.getD j 0 < s ∧ fewK rec s bins b k = rec (bins.set j (bins.getD j 0 - s))) := by
      rintro (h | ⟨j, h1, h2, h3⟩)
      · exact .inl h
      · exact .inr ⟨j, by omega, h2, h3⟩
    simp only [fewK]
    split
    · exact up ih
    · rename_i h
      by_cases e : fewK rec s bins b k ≤ rec (bins.set k (bins.getD k 0 - s))
      · rw [Int.min_eq_left e]; exact up ih
      · rw [Int.min_eq_right (by omega)]; exact .inr ⟨k, by omega, h, rfl⟩
def binsB (xs : List Int) (room : Int) : Bool := areSizesB xs && (decide (xs.length ≤ 10) && (inB 0 1000 room && xs.all fun x => decide (x ≤ room)))
def binsN (xs : List Int) (room : Int) : Int := if binsB xs room = true then fewR xs room xs.length [] else 0
end Go.Proofs.YtgkbbpajkbkgnaaGreatDoor

namespace Go.Proofs.YtgkbbpajkbkgnaaGreatDoor
open Go.RowKit Go.Sort
def ltK (key : Nat → Int) (x y : Nat) : Bool := decide (key x < key y)
theorem swo_ltK (key : Nat → Int) : SWO (ltK key) where
  irrefl x := by simp [ltK]
  trans x y z h1 h2 := by simp only [ltK, decide_eq_true_eq] at *; omega
  ntrans x y z h1 h2 := by simp only [ltK, decide_eq_false_iff_not] at *; omega
def ordA (key : Nat → Int) (n : Nat) : Array Nat := insertionSort (ltK key) (Array.range n) 0 n
def ordL (key : Nat → Int) (n : Nat) : List Nat := (ordA key n).toList
theorem ordA_perm (key : Nat → Int) (n : Nat) : PermIn 0 n (Array.range n) (ordA key n) :=
  (insertionSort_holds (swo_ltK key) (Array.range n) 0 n (Nat.zero_le _) (by simp)).1
theorem ordA_size (key : Nat → Int) (n : Nat) : (ordA key n).size = n := by rw [(ordA_perm key n).1]; simp
theorem ordL_len (key : Nat → Int) (n : Nat) : (ordL key n).length = n := by unfold ordL; rw [Array.length_toList, ordA_size]
theorem ordL_perm (key : Nat → Int) (n : Nat) : (ordL key n).Perm (List.range n) := by
  have h := (ordA_perm key n).2.2
  have e0 : ∀ (a : Array Nat) k, a.size = k → a.extract 0 k = a := by
    rintro a _ rfl
    exact Array.extract_size
  have e1 := e0 _ _ (ordA_size key n)
  have e2 := e0 (Array.range n) n (by simp)
  rw [e1, e2, Array.toList_range] at h
  exact h
theorem ordL_lt (key : Nat → Int) (n : Nat) : ∀ x ∈ ordL key n, x < n := fun x hx => List.mem_range.1 ((ordL_perm key n).mem_iff.1 hx)
end Go.Proofs.YtgkbbpajkbkgnaaGreatDoor

namespace Go.Proofs.YtgkbbpajkbkgnaaGreatDoor
open Go.RowKit Go.Sort
def cmpI (x y : Int) : Int := if x < y then -1 else if y < x then 1 else 0
def idxs (L : List Nat) : List Int := L.map fun k : Nat => (k : Int)
theorem idxs_len (L : List Nat) : (idxs L).length = L.length := by simp [idxs]
def encN (n x : Nat) : Value := I64 ((x % n : Nat) : Int)
theorem encN_map (n : Nat) (L : List Nat) (h : ∀ x, x ∈ L → x < n) : L.map (encN n) = (idxs L).map I64 := by
  unfold idxs
  rw [List.map_map]
  exact List.map_congr_left fun x hx => by simp [encN, Nat.mod_eq_of_lt (h x hx)]
theorem isNaN64_any (x : Int) (w : World) : Calls Tryz.prog 127 #[.int .i64 x] w fun e w' => e = .returned (.bool false) ∧ w = w' := by
  have h : (x != x) = false := by simp
  go_enter Tryz.func127, Tryz.ntmps127
  go_wp2_with fail
  go_ret
  exact ⟨rfl, rfl⟩
theorem cmp64_any (x y : Int) (w : World) : Calls Tryz.prog 65 #[.int .i64 x, .int .i64 y] w fun e w' => e = .returned (.int .i64 (cmpI x y)) ∧ w = w' := by
  go_enter Tryz.func65, Tryz.ntmps65
  by_cases h1 : x < y
  · have hc := Lib.hid (show cmpI x y = -1 by unfold cmpI; rw [if_pos h1])
    go_wp2_with (go_at_call 127; refine (isNaN64_any _ _).mono ?_; rintro e w' ⟨rfl, rfl⟩)
    go_ret
    exact ⟨by rw [hc.out]; rfl, rfl⟩
  · by_cases h2 : y < x
    · have hc := Lib.hid (show cmpI x y = 1 by unfold cmpI; rw [if_neg h1, if_pos h2])
      go_wp2_with (go_at_call 127; refine (isNaN64_any _ _).mono ?_; rintro e w' ⟨rfl, rfl⟩)
      go_ret
      exact ⟨by rw [hc.out]; rfl, rfl⟩
    · have hc := Lib.hid (show cmpI x y = 0 by unfold cmpI; rw [if_neg h1, if_neg h2])
      go_wp2_with (go_at_call 127; refine (isNaN64_any _ _).mono ?_; rintro e w' ⟨rfl, rfl⟩)
      go_ret
      exact ⟨by rw [hc.out]; rfl, rfl⟩
end Go.Proofs.YtgkbbpajkbkgnaaGreatDoor
