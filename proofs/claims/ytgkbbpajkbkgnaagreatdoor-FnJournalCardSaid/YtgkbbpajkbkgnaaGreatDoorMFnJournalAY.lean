/-
  FnJournal: texts joined: HeadI, RtxI, JtxI, FxI, StoreI, ClauseS, CaseVS, StoreS, RdI, RdS, RlI.
-/
import Derived.Lib.MinMax
import Derived.Deep.Cut
import Derived.Deep.RegionHeld3
import Derived.Lib.ConvBytes
import Derived.Test.YtgkbbpajkbkgnaaGreatDoorMFnJournalAA
import Derived.Test.YtgkbbpajkbkgnaaGreatDoorMFnJournalAB
import Derived.Test.YtgkbbpajkbkgnaaGreatDoorMFnJournalAC
import Derived.Test.YtgkbbpajkbkgnaaGreatDoorMFnJournalAD
import Derived.Test.YtgkbbpajkbkgnaaGreatDoorMFnJournalAE
import Derived.Test.YtgkbbpajkbkgnaaGreatDoorMFnJournalAF
import Derived.Test.YtgkbbpajkbkgnaaGreatDoorMFnJournalAG
import Derived.Test.YtgkbbpajkbkgnaaGreatDoorMFnJournalAH
import Derived.Test.YtgkbbpajkbkgnaaGreatDoorMFnJournalAL
import Derived.Test.YtgkbbpajkbkgnaaGreatDoorMFnJournalAP
set_option linter.unusedVariables false
set_option linter.unusedSimpArgs false
namespace Go.Proofs.YtgkbbpajkbkgnaaGreatDoor
open Go.RowKit
set_option maxHeartbeats 2000000 in
set_option maxRecDepth 4000 in
theorem headsI_any (v : Value) (js : List JobD) (w : World) (h : RdJ w v js) :
    Calls Tryz.prog 236 #[v] w fun e w' => e = .returned (.tuple #[.int .i64 (headsN js), .bool (areJobsB js)]) ∧ Below w.heap.size w w' := by
  obtain ⟨va, vc, rfl⟩ := h.shape
  have HA := Lib.hid (AreJobs_any _ js w h)
  have HR := Lib.hid h
  obtain ⟨q, hq⟩ : ∃ q, areJobsB js = q := ⟨_, rfl⟩
  rw [hq] at HA ⊢
  have HQ := Lib.hid hq
  clear hq h
  go_enter Tryz.func236, Tryz.ntmps236
  cases q
  · go_wp2_with (go_at_call 51; refine HA.out.mono ?_; rintro e w0 ⟨rfl, hb0⟩)
    go_ret2
    exact ⟨by rw [show headsN js = 0 by unfold headsN; rw [HQ.out]; rfl]; rfl, hb0⟩
  obtain ⟨hn1, hn2, hjf⟩ := jobs_all HQ.out
  have HJ := Lib.hid hjf
  have HRG := Lib.hid (fun r m hm => headK_rng (js := js) (fun i hi => by have := hjf i hi; omega) r m hm)
  have HE := Lib.hid (show headsN js = headsK js js.length by unfold headsN; rw [HQ.out]; rfl)
  have HS := Lib.hid (fun j => show headsK js (j + 1) = max (headsK js j) (headK js (js.getD j J0).ready js.length) from rfl)
  have HK := Lib.hid (fun r m => show headK js r (m + 1) = if r ≤ (js.getD m J0).ready then headK js r m + (js.getD m J0).long else headK js r m from rfl)
  have HS0 := Lib.hid (show headsK js 0 = 0 from rfl)
  have HK0 := Lib.hid (fun r => show headK js r 0 = r from rfl)
  clear hjf HQ
  obtain ⟨n, hn⟩ : ∃ n, n = js.length := ⟨_, rfl⟩
  have HN := Lib.hid hn.symm
  rw [← hn] at HJ HRG HE HS HA HR hn1 hn2 ⊢
  clear hn
  obtain ⟨T, hT⟩ : ∃ T, T = headsK js := ⟨_, rfl⟩
  obtain ⟨U, hU⟩ : ∃ U, U = headK js := ⟨_, rfl⟩
  rw [← hT] at HE HS HS0
  rw [← hU] at HS HK HK0 HRG
  clear hT hU
  go_wp2_with (go_at_call 51; refine HA.out.mono ?_; rintro e w0 ⟨rfl, hb0⟩)
  have HB0 := Lib.hid hb0
  have hz0 := HB0.out.size
  clear hb0 HA
  go_loopw [4, 15] (fun bv jv wr => ∃ j : Nat, jv = .int .i64 j ∧ j ≤ n ∧ bv = .int .i64 (T j) ∧ Hid (Below w.heap.size w wr)) (fun _ jv _ => n + 1 - (intOf jv).toNat)
  case atStart => exact ⟨0, rfl, Nat.zero_le _, by rw [HS0.out], HB0⟩
  case round =>
    obtain ⟨j, rfl, hj, rfl, HB⟩ := hrel
    obtain ⟨wo, rfl⟩ : ∃ wo, wo = wr := ⟨wr, rfl⟩
    by_cases hlt : j < n
    · have hltI : (j : Int) < (n : Int) := by omega
      obtain ⟨jb, jo, rfl, _, c0, c1, c2, c3⟩ := (HR.out.up HB.out (Nat.le_refl _)).at (i := j) (by rw [HN.out]; exact hlt)
      have hjr := HJ.out j hlt
      have hS := HS.out j
      obtain ⟨r, hr⟩ : ∃ r, r = (js.getD j J0).ready := ⟨_, rfl⟩
      rw [← hr] at c3 hjr hS
      have HSJ := Lib.hid hS
      obtain ⟨l0, hl0⟩ : ∃ r, r = (js.getD j J0).long := ⟨_, rfl⟩
      obtain ⟨d0, hd0⟩ : ∃ r, r = (js.getD j J0).due := ⟨_, rfl⟩
      obtain ⟨g0, hg0⟩ : ∃ r, r = (js.getD j J0).weight := ⟨_, rfl⟩
      rw [← hl0] at c0
      rw [← hd0] at c1
      rw [← hg0] at c2
      have hr0 : 0 ≤ r ∧ r ≤ 100000 := by omega
      clear hr hl0 hd0 hg0 hS hjr
      go_upto_region 7 with fail
      refine wp_at fun w1 hw1 => ?_
      obtain ⟨p, hp⟩ : ∃ p, p = wo.heap.size := ⟨_, rfl⟩
      have HP1 := Lib.hid (show Blk w1 p 86 #[.int .i64 l0, .int .i64 d0, .int .i64 g0, .int .i64 r] by subst hw1 hp; exact Blk.new _ _ _)
      have HB1 := Lib.hid (show Below w.heap.size w w1 by subst hw1; exact HB.out.alloc HB.out.size _)
      rw [← hp]
      clear hw1 hp c0 c1 c2 c3
      have e3 := HP1.out.cell 3 rfl
      go_wp2_with fail
      go_loopw [7, 23] (fun ev kv wr => ∃ k : Nat, kv = .int .i64 k ∧ k ≤ n ∧ ev = .int .i64 (U r k) ∧ Hid (Below w1.heap.size w1 wr)) (fun _ kv _ => n + 1 - (intOf kv).toNat)
      case atStart => exact ⟨0, rfl, Nat.zero_le _, by rw [HK0.out], Lib.hid (Below.refl _ _)⟩
      case round =>
        obtain ⟨k, rfl, hk, rfl, HBk⟩ := hrel
        obtain ⟨wk, rfl⟩ : ∃ wk, wk = wr := ⟨wr, rfl⟩
        have HBW := Lib.hid (HB1.out.trans (HBk.out.mono HB1.out.size))
        have HPk := Lib.hid (HP1.out.below HBk.out HP1.out.lt)
        have hU := HRG.out r k hk
        by_cases hkn : k < n
        · have hkI : (k : Int) < (n : Int) := by omega
          obtain ⟨jb2, jo2, ee, _, c0, c1, c2, c3⟩ := (HR.out.up HBW.out (Nat.le_refl _)).at (i := k) (by rw [HN.out]; exact hkn)
          simp only [Option.some.injEq, Addr.mk.injEq, and_true] at ee
          obtain ⟨rfl, rfl⟩ := ee
          have hjr := HJ.out k hkn
          have hS := HK.out r k
          obtain ⟨r2, hr2⟩ : ∃ r, r = (js.getD k J0).ready := ⟨_, rfl⟩
          obtain ⟨l2, hl2⟩ : ∃ r, r = (js.getD k J0).long := ⟨_, rfl⟩
          obtain ⟨d2, hd2⟩ : ∃ r, r = (js.getD k J0).due := ⟨_, rfl⟩
          obtain ⟨g2, hg2⟩ : ∃ r, r = (js.getD k J0).weight := ⟨_, rfl⟩
          rw [← hr2] at c3 hS
          rw [← hl2] at c0 hjr hS
          rw [← hd2] at c1
          rw [← hg2] at c2
          have hl : 1 ≤ l2 ∧ l2 ≤ 1000 := by omega
          clear hr2 hl2 hd2 hg2 hjr
          obtain ⟨u, hu⟩ : ∃ u, u = U r k := ⟨_, rfl⟩
          rw [← hu] at hS hU ⊢
          have hadd : IntKind.i64.wrap (u + l2) = u + l2 := IntWalk.i64_in _ (by omega)
          clear hu
          go_upto_region 11 with fail
          refine wp_at fun w2 hw2 => ?_
          obtain ⟨p2, hp2⟩ : ∃ p, p = wk.heap.size := ⟨_, rfl⟩
          have HP2 := Lib.hid (show Blk w2 p2 86 #[.int .i64 l2, .int .i64 d2, .int .i64 g2, .int .i64 r2] by subst hw2 hp2; exact Blk.new _ _ _)
          have HB2 := Lib.hid (show Below w1.heap.size w1 w2 by subst hw2; exact HBk.out.alloc HBk.out.size _)
          have HPp := Lib.hid (HP1.out.below HB2.out HP1.out.lt)
          rw [← hp2]
          clear hw2 hp2 c0 c1 c2 c3 e3
          have e3 := HPp.out.cell 3 rfl
          have f3 := HP2.out.cell 3 rfl
          have f0 := HP2.out.cell 0 rfl
          by_cases hge : r ≤ r2
          · have HS2 := Lib.hid (show U r (k + 1) = u + l2 by rw [hS, if_pos hge])
            clear hS
            go_wp2_with fail
            go_roundw
            case rel => exact ⟨k + 1, by go_num, by omega, by rw [HS2.out], HB2⟩
            case measure => simp [intOf]; omega
          · have HS2 := Lib.hid (show U r (k + 1) = u by rw [hS, if_neg hge])
            clear hS
            go_wp2_with fail
            go_roundw
            case rel => exact ⟨k + 1, by go_num, by omega, by rw [HS2.out], HB2⟩
            case measure => simp [intOf]; omega
        · obtain rfl : k = n := by omega
          go_wp2_with fail
          go_roundw
          case rel => exact ⟨j + 1, by go_num, by omega, by rw [HSJ.out], HBW⟩
          case measure => simp [intOf]; omega
    · obtain rfl : j = n := by omega
      go_wp2_with fail
      go_ret2
      exact ⟨by rw [HE.out]; rfl, HB.out⟩
end Go.Proofs.YtgkbbpajkbkgnaaGreatDoor

namespace Go.Proofs.YtgkbbpajkbkgnaaGreatDoor
open Go.RowKit
theorem fill_string (W : World) (s : ByteArray) (B b : Nat) (hb : b = W.heap.size) (hB : B ≤ W.heap.size) : (W.alloc (.cells #[.string s] 9)).ownsRow B 9 1 (.slice (some ⟨b, 0, none⟩) 1 1) 1 ([s].map SV) := by
  subst hb
  exact World.ownsRow_lit (base := B) (e := 9) (size := 1) W #[.string s] 1 hB (by simp [maxLen]) rfl
theorem join_any (v : Value) (c : UInt8) (ws : List ByteArray) (w : World) (h : RdSs w v ws) (hN : ∀ x ∈ ws, x.size ≤ 2304) (h0 : ws.length = 4) :
    Calls Tryz.prog 48 #[v, .string ⟨#[c]⟩] w fun e w' => e = .returned (.string (joinBy c ws)) ∧ Below w.heap.size w w' := by
  obtain ⟨a, cp, rfl⟩ := h.shape
  obtain ⟨b, off, rfl, hbw, _⟩ := h.at (i := 0) (by omega)
  have hcells : ∀ (j : Nat) x, ws[j]? = some x → w.cell? ⟨b, off + j, none⟩ = some (.string x) := by
    intro j x hj
    have hlt := (List.getElem?_eq_some_iff.1 hj).1
    obtain ⟨b', off', e, _, hc⟩ := h.at hlt
    simp only [Option.some.injEq, Addr.mk.injEq, and_true] at e
    obtain ⟨rfl, rfl⟩ := e
    rw [hc, List.getD_eq_getElem?_getD, hj]
    rfl
  have hcap : ws.length ≤ cp := by
    rcases h.1 with ⟨e, _⟩ | ⟨ad, cap, e, h1, h2, _⟩
    · cases e
    · simp only [Value.slice.injEq, List.length_map] at e h1
      obtain ⟨_, _, rfl⟩ := e
      exact h1
  have hsz := joinBy_size c ws 2304 hN
  have hC := Tryz.strings_Join b off cp ws ⟨#[c]⟩ w hcells hbw (by omega) hcap (by
    have e : (Lib.join (ws.map (·.data.toList)) (⟨#[c]⟩ : ByteArray).data.toList).length = (joinBy c ws).size := by simp [joinBy, ByteArray.size]
    rw [e]; omega)
  exact hC
set_option maxHeartbeats 4000000 in
set_option maxRecDepth 4000 in
theorem rowsTextI_any (v : Value) (r : RowsD) (w : World) (h : RdR w v r) (b1 : BitsF r.nums) (b2 : BitsF r.bnds) (b3 : BitsF r.gains) (hp : HasPow w) :
    Calls Tryz.prog 11 #[v] w fun e w' => e = .returned (.tuple #[.string (rowT r), .bool (validR r)]) ∧ Below w.heap.size w w' := by
  obtain ⟨a1, c1, a2, c2, a3, c3, rfl⟩ := h.shape
  obtain ⟨p1, p2, p3⟩ := h.parts
  have HP := Lib.hid h
  have P1 := Lib.hid p1
  have P2 := Lib.hid p2
  have P3 := Lib.hid p3
  have HPW := Lib.hid hp
  obtain ⟨q, hq⟩ : ∃ q, validR r = q := ⟨_, rfl⟩
  have HQ := Lib.hid hq
  have HV := Lib.hid (fun W (h : Below w.heap.size w W) => ValidRows_any _ r W (HP.out.up h (Nat.le_refl _)))
  rw [hq] at HV ⊢
  clear h p1 p2 p3 hp hq
  go_enter Tryz.func11, Tryz.ntmps11
  go_upto_region 1 with fail
  refine wp_at fun W hW => ?_
  have HB := Lib.hid (show Below w.heap.size w W by subst hW; exact (Below.refl _ _).alloc (Nat.le_refl _) _)
  have HK := Lib.hid (show Blk W w.heap.size 26 #[.int .i64 r.vars, .slice a1 r.nums.length c1, .slice a2 r.bnds.length c2, .slice a3 r.gains.length c3] by subst hW; exact Blk.new _ _ _)
  clear hW
  have d0 := HK.out.cell 0 rfl
  have d1 := HK.out.cell 1 rfl
  have d2 := HK.out.cell 2 rfl
  have d3 := HK.out.cell 3 rfl
  cases q
  · go_wp2_with (go_at_call 46; refine (HV.out _ HB.out).mono ?_; rintro e w0 ⟨rfl, hb⟩)
    go_ret2
    exact ⟨by rw [show rowT r = E0 by unfold rowT; rw [HQ.out]; rfl]; rfl, HB.out.trans (hb.mono HB.out.size)⟩
  have hfew := valR_few HQ.out
  obtain ⟨n, hn⟩ : ∃ n : Nat, r.vars = (n : Int) := ⟨r.vars.toNat, by omega⟩
  have hn8 : n ≤ 8 := by omega
  have HW0 := Lib.hid (show wordsR r = [decS n, numT r.nums, numT r.bnds, numT r.gains] by unfold wordsR; rw [hn]; rfl)
  have HT := Lib.hid (show rowT r = joinBy 59 (wordsR r) by unfold rowT; rw [HQ.out]; rfl)
  have HF := Lib.hid hfew
  have HN := Lib.hid hn
  clear hfew hn
  go_upto_region 3 with (go_at_call 46; refine (HV.out _ HB.out).mono ?_; rintro e w0 ⟨rfl, hb⟩)
  have HB0 := Lib.hid (HB.out.trans (hb.mono HB.out.size))
  have HK0 := Lib.hid (HK.out.below hb HK.out.lt)
  have e0 := held_of hb d0 (Nat.le_refl _)
  rw [HN.out] at e0
  clear d0 d1 d2 d3 hb HV HK HB
  have HD := Lib.hid (Decimal_any n (by omega) w0 (HPW.out.up HB0.out (Nat.le_refl _)))
  go_upto_region 4 with (go_at_call 15; refine HD.out.mono ?_; rintro e w1 ⟨rfl, hb⟩)
  refine wp_at fun W4 hW4 => ?_
  have hz0 := HB0.out.size
  have HB4 := Lib.hid (show Below w.heap.size w W4 by subst hW4; exact (HB0.out.trans (hb.mono hz0)).alloc (Nat.le_trans hz0 hb.size) _)
  have HK4 := Lib.hid (show Blk W4 w.heap.size 26 #[.int .i64 r.vars, .slice a1 r.nums.length c1, .slice a2 r.bnds.length c2, .slice a3 r.gains.length c3] by subst hW4; exact (HK0.out.below hb HK0.out.lt).alloc _)
  have HO4 := Lib.hid (show W4.ownsRow w.heap.size 9 1 (.slice (some ⟨w1.heap.size, 0, none⟩) 1 1) 1 (((wordsR r).take 1).map SV) by
    rw [HW0.out]; subst hW4; exact fill_string w1 _ _ _ rfl (Nat.le_trans hz0 hb.size))
  clear hW4 hb HD e0 HB0 HK0 hz0
  have d1 := HK4.out.cell 1 rfl
  have d2 := HK4.out.cell 2 rfl
  have d3 := HK4.out.cell 3 rfl
  have hz4 := HB4.out.size
  have HL4 := Lib.hid (Blk.new W4 24 #[.slice a1 r.nums.length c1, .slice a2 r.bnds.length c2, .slice a3 r.gains.length c3])
  obtain ⟨L, hL⟩ : ∃ L, L = W4.heap.size := ⟨_, rfl⟩
  go_wp2_with fail
  go_loopw [4, 24] (fun ov iv wr => ∃ (k : Nat) (b : Option Addr) (cc : Nat), iv = .int .i64 k ∧ k ≤ 3 ∧ ov = .slice b (k + 1) cc ∧ Hid (wr.ownsRow w.heap.size 9 1 (.slice b (k + 1) cc) (k + 1) (((wordsR r).take (k + 1)).map SV)) ∧ Hid (Blk wr W4.heap.size 24 #[.slice a1 r.nums.length c1, .slice a2 r.bnds.length c2, .slice a3 r.gains.length c3]) ∧ Hid (Below w.heap.size w wr)) (fun _ iv _ => 4 - (intOf iv).toNat)
  case atStart => exact ⟨0, _, _, rfl, by omega, rfl, Lib.hid (HO4.out.alloc _), HL4, Lib.hid (HB4.out.alloc hz4 _)⟩
  case round =>
    clear HL4 HO4 HB4 HK4 d1 d2 d3 hL
    obtain ⟨k, b, cc, rfl, hk, rfl, HO, HL, HBR⟩ := hrel
    obtain ⟨wo, rfl⟩ : ∃ wo, wo = wr := ⟨wr, rfl⟩
    have hszo := HBR.out.size
    by_cases hlt : k < 3
    · obtain ⟨av, cv, X, hcell, hrd, hbits, hlen, hws⟩ : ∃ (av : Option Addr) (cv : Nat) (X : List Nat), wo.cell? ⟨W4.heap.size, k, none⟩ = some (.slice av X.length cv) ∧ RdF w (.slice av X.length cv) X ∧ BitsF X ∧ X.length ≤ 256 ∧ (wordsR r).take (k + 1 + 1) = (wordsR r).take (k + 1) ++ [numT X] := by
        have hf := HF.out
        rcases (by omega : k = 0 ∨ k = 1 ∨ k = 2) with rfl | rfl | rfl
        · exact ⟨a1, c1, r.nums, HL.out.cell 0 rfl, P1.out, b1, by omega, rfl⟩
        · exact ⟨a2, c2, r.bnds, HL.out.cell 1 rfl, P2.out, b2, by omega, rfl⟩
        · exact ⟨a3, c3, r.gains, HL.out.cell 2 rfl, P3.out, b3, by omega, rfl⟩
      have hltI : (k : Int) < 3 := by omega
      have HN := Lib.hid (NumbersText_any _ X wo (hrd.up HBR.out (Nat.le_refl _)) hbits hlen)
      have HWS := Lib.hid hws
      obtain ⟨D, hD⟩ : ∃ D, D = numT X := ⟨_, rfl⟩
      rw [← hD] at HN HWS
      have hlL := HL.out.lt
      clear hrd hbits hlen hws hD b1 b2 b3
      go_wp2_with (first
        | (go_at_call 47; refine HN.out.mono ?_; rintro e w1 ⟨rfl, hb1⟩; have hz1 := Nat.le_trans hszo hb1.size; have HL1 := Lib.hid ((HL.out.below hb1 hlL).alloc (.cells #[.string D] 9)); have HO1 := Lib.hid ((owns_below HO.out hb1 (Nat.le_refl _)).alloc (.cells #[.string D] 9)))
        | (at_builtin; refine app_strs rfl _ _ rfl w.heap.size (.slice b (k + 1) cc) (k + 1) ((wordsR r).take (k + 1)) rfl HO1.out _ [D] rfl (slcS_one w1 D _ rfl) (k + 1 + 1) ((wordsR r).take (k + 1 + 1)) (by simp) HWS.out (by omega) (by simp; omega) ?_; intro b4 c4 w4 hown4 hbl4 hg4; have HL4 := Lib.hid (blkI_grown HL1.out hg4 (HL1.out.not_owned HO1.out (by decide))))
        | fail)
      go_roundw
      case rel => exact ⟨k + 1, b4, c4, by go_num, by omega, rfl, Lib.hid hown4, HL4, Lib.hid (HBR.out.trans ((hb1.mono hszo).trans (((Below.refl _ _).alloc hz1 _).trans hbl4)))⟩
      case measure => simp [intOf]; omega
    · obtain rfl : k = 3 := by omega
      have hf := HF.out
      have s0 := decS_size (n := n) (by omega)
      have hsz : ∀ x ∈ wordsR r, x.size ≤ 2304 := by
        rw [HW0.out]
        intro x hx
        simp only [List.mem_cons, List.not_mem_nil, or_false] at hx
        rcases hx with rfl | rfl | rfl | rfl
        · omega
        · exact numT_size _ (by omega)
        · exact numT_size _ (by omega)
        · exact numT_size _ (by omega)
      have hC : Calls Tryz.prog 48 #[.slice b 4 cc, .string ⟨#[59]⟩] wo fun e w' => e = .returned (.string (joinBy 59 (wordsR r))) ∧ Below wo.heap.size wo w' := by
        have hO := HO.out
        have hrd : RdSs wo (.slice b (wordsR r).length cc) (wordsR r) := ⟨slc_of_owns hO, fun s hs => by have := hsz s hs; simp [maxLen]; omega⟩
        exact join_any _ 59 (wordsR r) wo hrd hsz rfl
      have HC := Lib.hid hC
      clear hC hsz s0 hf
      go_wp2_with (go_at_call 48; refine HC.out.mono ?_; rintro e w1 ⟨rfl, hb1⟩)
      go_ret2
      exact ⟨by rw [HT.out]; rfl, HBR.out.trans (hb1.mono hszo)⟩
end Go.Proofs.YtgkbbpajkbkgnaaGreatDoor

namespace Go.Proofs.YtgkbbpajkbkgnaaGreatDoor
open Go.RowKit
theorem areItems_any (v : Value) (xs : List Int) (w : World) (h : RdI w v xs) :
    Calls Tryz.prog 49 #[v] w fun e w' => e = .returned (.bool (decide (xs.length ≤ 64) && allIn (-1000000000000000) 1000000000000000 xs)) ∧ w = w' := by
  obtain ⟨a, c, rfl⟩ := h.shape
  have hl := h.len
  simp only [maxLen] at hl
  have HW := Lib.hid (allWithin_any _ xs (-1000000000000000) 1000000000000000 w h)
  clear h
  go_enter Tryz.func49, Tryz.ntmps49
  by_cases h1 : xs.length ≤ 64
  · have d1 : decide ((xs.length : Int) ≤ 64) = true := decide_eq_true (by omega)
    have HE := Lib.hid (show decide (xs.length ≤ 64) = true from decide_eq_true h1)
    clear h1
    go_wp2_with (go_at_call 121; refine HW.out.mono ?_; rintro e w' ⟨rfl, rfl⟩)
    go_ret
    exact ⟨by rw [HE.out]; rfl, rfl⟩
  · have d1 : decide ((xs.length : Int) ≤ 64) = false := decide_eq_false (by omega)
    have HE := Lib.hid (show decide (xs.length ≤ 64) = false from decide_eq_false h1)
    clear h1
    go_wp2_with fail
    go_ret
    exact ⟨by rw [HE.out]; rfl, rfl⟩
theorem listTextOk_any (v : Value) (xs : List Int) (w : World) (h : RdI w v xs) (hs : Small xs) (hl : xs.length ≤ 64) (hin : allIn (-1000000000000000) 1000000000000000 xs = true) (hp : HasPow w) :
    Calls Tryz.prog 12 #[v] w fun e w' => e = .returned (.tuple #[.string (listT xs), .bool true]) ∧ Below w.heap.size w w' := by
  have ha := areItems_any v xs w h
  rw [hin, show decide (xs.length ≤ 64) = true from decide_eq_true hl] at ha
  have HA := Lib.hid ha
  have HL := Lib.hid (listTextI_any v xs w h hs (by omega) hp)
  clear ha h hs hin hp
  go_enter Tryz.func12, Tryz.ntmps12
  go_wp2_with (first
    | (go_at_call 49; refine HA.out.mono ?_; rintro e w' ⟨rfl, rfl⟩)
    | (go_at_call 50; refine HL.out.mono ?_; rintro e w1 ⟨rfl, hb⟩))
  go_ret2
  exact ⟨rfl, hb⟩
theorem nums_in {js : List JobD} (h : areJobsB js = true) : allIn (-1000000000000000) 1000000000000000 (numsK js js.length) = true := by
  refine allIn_true fun i hi => ?_
  have := nums_small h ((numsK js js.length).getD i 0) (by rw [List.getD_eq_getElem?_getD, List.getElem?_eq_getElem hi]; exact List.getElem_mem _)
  rw [inB_iff]; omega
set_option maxHeartbeats 1000000 in
set_option maxRecDepth 4000 in
theorem jobsTextI_any (v : Value) (js : List JobD) (w : World) (h : RdJ w v js) (hp : HasPow w) :
    Calls Tryz.prog 13 #[v] w fun e w' => e = .returned (.tuple #[.string (jobT js), .bool (areJobsB js)]) ∧ Below w.heap.size w w' := by
  have HA := Lib.hid (AreJobs_any v js w h)
  obtain ⟨q, hq⟩ : ∃ q, areJobsB js = q := ⟨_, rfl⟩
  rw [hq] at HA ⊢
  have HQ := Lib.hid hq
  have HPW := Lib.hid hp
  clear hq hp
  obtain ⟨a, c, rfl⟩ := h.shape
  have HR := Lib.hid h
  clear h
  go_enter Tryz.func13, Tryz.ntmps13
  cases q
  · go_wp2_with (go_at_call 51; refine HA.out.mono ?_; rintro e w0 ⟨rfl, hb⟩)
    go_ret2
    exact ⟨by rw [show jobT js = E0 by unfold jobT; rw [HQ.out]; rfl]; rfl, hb⟩
  have hn : js.length ≤ 12 := by
    have hj := HQ.out
    unfold areJobsB at hj
    rw [Bool.and_eq_true, inB_iff] at hj
    omega
  go_upto_region 3 with (go_at_call 51; refine HA.out.mono ?_; rintro e w0 ⟨rfl, hb⟩)
  have HB0 := Lib.hid hb
  clear hb HA
  go_wp2_with fail
  go_loopw [4, 12] (fun ov iv wr => ∃ (k m : Nat) (b : Option Addr) (cc : Nat), iv = .int .i64 k ∧ k ≤ js.length ∧ Hid (m = 4 * k) ∧ ov = .slice b m cc ∧ Hid (wr.ownsRow w.heap.size 2 1 (.slice b m cc) m ((numsK js k).map I64)) ∧ Hid (Below w.heap.size w wr)) (fun _ iv _ => js.length + 1 - (intOf iv).toNat)
  case atStart => exact ⟨0, 0, none, 0, rfl, Nat.zero_le _, Lib.hid rfl, rfl, Lib.hid (World.ownsRow_nil _ _ _ _), HB0⟩
  case round =>
    obtain ⟨k, m, b, cc, rfl, hk, HM, rfl, HO, HB⟩ := hrel
    obtain ⟨wo, rfl⟩ : ∃ wo, wo = wr := ⟨wr, rfl⟩
    have hsz := HB.out.size
    by_cases hlt : k < js.length
    · have hlt' : (k : Int) < js.length := by omega
      obtain ⟨jb, jo, rfl, hjb, d0, d1, d2, d3⟩ := (HR.out.up HB.out (Nat.le_refl _)).at hlt
      have HE := Lib.hid (numsK_succ js k hlt)
      obtain ⟨j, hje⟩ : ∃ j, j = js.getD k J0 := ⟨_, rfl⟩
      rw [← hje] at d0 d1 d2 d3 HE
      have HE2 := Lib.hid (show numsK js (k + 1) = numsK js k ++ [j.long, j.due, j.weight, j.ready] from HE.out)
      have hm4 : m + 4 ≤ 1000 := by have := HM.out; omega
      clear hje HE
      have hal : Below w.heap.size wo ((wo.alloc (.cells #[.int .i64 j.long, .int .i64 j.due, .int .i64 j.weight, .int .i64 j.ready] 86)).alloc (.cells #[.int .i64 j.long, .int .i64 j.due, .int .i64 j.weight, .int .i64 j.ready] 2)) := ((Below.refl _ _).alloc hsz _).alloc (by simp; omega) _
      have HAL := Lib.hid hal
      clear hal
      go_wp2_with (go_loud (at_builtin; refine app_ints rfl _ _ rfl w.heap.size (.slice b m cc) m (numsK js k) rfl ((HO.out.alloc _).alloc _) _ [j.long, j.due, j.weight, j.ready] rfl (slcI_four _ _ _ _ _ _ (by simp)) (m + 4) (numsK js (k + 1)) (by simp) HE2.out (by omega) (Nat.le_trans hsz HAL.out.size) ?_; intro b3 c3 w3 hown3 hbl3 _ _))
      go_roundw
      case rel => exact ⟨k + 1, m + 4, b3, c3, by go_num, by omega, Lib.hid (by have := HM.out; omega), rfl, Lib.hid hown3, Lib.hid (HB.out.trans (HAL.out.trans hbl3))⟩
      case measure => simp [intOf]; omega
    · obtain rfl : k = js.length := by omega
      have hrd : RdI wo (.slice b m cc) (numsK js js.length) := slc_of_owns HO.out
      have hnl := numsK_len js js.length (Nat.le_refl _)
      have HT := Lib.hid (listTextOk_any _ (numsK js js.length) wo hrd (nums_sm HQ.out) (by omega) (nums_in HQ.out) (HPW.out.up HB.out (Nat.le_refl _)))
      clear hrd hnl
      go_wp2_with (go_at_call 12; refine HT.out.mono ?_; rintro e w1 ⟨rfl, hb1⟩)
      go_ret2
      exact ⟨by rw [show jobT js = listT (numsK js js.length) by unfold jobT; rw [HQ.out]; rfl]; rfl, HB.out.trans (hb1.mono hsz)⟩
end Go.Proofs.YtgkbbpajkbkgnaaGreatDoor

namespace Go.Proofs.YtgkbbpajkbkgnaaGreatDoor
open Go.RowKit
theorem run_frombits (x : Int) (W : World) : (callFunc 249 #[.int .u32 x]).run Tryz.prog W = .ok (.value (.float .f32 x.toNat)) W := by
  rw [run_callFunc_extern Tryz.func249 (by kernel_rfl) (by kernel_rfl) (by kernel_rfl) (e := Extern.MathFloatBits.float32frombits) (by kernel_rfl)]
  rfl
theorem FromBits_any (n : Nat) (w : World) (h : n < 4294967296) :
    Calls Tryz.prog 185 #[.int .i64 n] w fun e w' => e = .returned (.tuple #[.float .f32 n, .bool true]) ∧ w = w' := by
  have hw := within_any (n : Int) 0 4294967295
  rw [show inB 0 4294967295 (n : Int) = true by rw [inB_iff]; omega] at hw
  have HW := Lib.hid hw
  have hb := run_frombits
  have hwr : IntKind.u32.wrap (n : Int) = (n : Int) := by simp [IntKind.wrap, IntKind.bits, IntKind.signed]; omega
  clear hw
  go_enter Tryz.func185, Tryz.ntmps185
  go_wp2_with (go_at_call 115; refine (HW.out _).mono ?_; rintro e w' ⟨rfl, rfl⟩)
  go_ret2
  exact ⟨rfl, rfl⟩
theorem hex_index : ∀ c, c < 256 → Lib.indexByte [48, 49, 50, 51, 52, 53, 54, 55, 56, 57, 97, 98, 99, 100, 101, 102] c.toUInt8 = match hexV c with | some d => (d : Int) | none => -1 := by decide +kernel
theorem IndexByte_hex (c : Nat) (w : World) (h : c < 256) (z : Int) (hz : z = match hexV c with | some d => (d : Int) | none => -1) :
    Calls Tryz.prog 184 #[.string ⟨#[48, 49, 50, 51, 52, 53, 54, 55, 56, 57, 97, 98, 99, 100, 101, 102]⟩, .int .u8 c] w fun e w' => e = .returned (.int .i64 z) ∧ w = w' := by
  refine (Tryz.strings_IndexByte ⟨#[48, 49, 50, 51, 52, 53, 54, 55, 56, 57, 97, 98, 99, 100, 101, 102]⟩ (c : Int) w).mono ?_
  rintro e w' ⟨rfl, rfl⟩
  refine ⟨?_, rfl⟩
  rw [hz, ← hex_index c h, Int.toNat_natCast]
theorem i64_or_natX (a d : Nat) (ha : a < 268435456) (hd : d < 16) : bits .or .i64 ((16 * a : Nat) : Int) (d : Int) = ((16 * a + d : Nat) : Int) := by
  have h1 : (16 * a) ||| d = 16 * a + d := by
    have := Nat.shiftLeft_add_eq_or_of_lt (i := 4) (b := d) (by omega) a
    rw [Nat.shiftLeft_eq, show a * 2 ^ 4 = 16 * a by omega] at this
    exact this.symm
  show IntKind.i64.wrap ((BitVec.ofInt 64 ((16 * a : Nat) : Int) ||| BitVec.ofInt 64 (d : Int)).toNat : Int) = _
  rw [BitVec.toNat_or, ofInt_i64X _ (by omega), ofInt_i64X d (by omega), h1, IntKind.wrap_i64]
  omega
set_option maxHeartbeats 1000000 in
theorem fromHex_any (s : ByteArray) (w : World) (hs : s.size ≤ 1048576) :
    Calls Tryz.prog 142 #[.string s] w fun e w' => ∃ x, e = .returned (.tuple #[.float .f32 x, .bool (hexOk s)]) ∧ (hexOk s = true → x = accH s 8) ∧ w = w' := by
  by_cases h8 : s.size = 8
  case neg =>
    have hd : ((s.size : Int) != 8) = true := by simp; omega
    have HNO := Lib.hid (show hexOk s = false by unfold hexOk; rw [decide_eq_false h8, Bool.false_and])
    clear h8
    go_enter Tryz.func142, Tryz.ntmps142
    go_wp2_with fail
    go_ret2
    exact ⟨0, by rw [HNO.out]; rfl, fun h => (by rw [HNO.out] at h; cases h), rfl⟩
  have hd : ((s.size : Int) != 8) = false := by simp; omega
  have H8 := Lib.hid h8
  clear h8 hs
  go_enter Tryz.func142, Tryz.ntmps142
  go_wp2_with fail
  go_loopw [4, 5] (fun bv iv wr => ∃ (k : Nat), iv = .int .i64 k ∧ k ≤ 8 ∧ bv = .int .i64 (accH s k) ∧ Hid (∀ j, j < k → okB s j = true) ∧ w = wr) (fun _ iv _ => 8 - (intOf iv).toNat)
  case atStart => exact ⟨0, rfl, Nat.zero_le _, rfl, Lib.hid (by intro j hj; omega), rfl⟩
  case round =>
    obtain ⟨k, rfl, hk, rfl, HALL, rfl⟩ := hrel
    by_cases hlt : k < 8
    · have hlt' : (k : Int) < 8 := by omega
      have hks : k < s.size := by have := H8.out; omega
      have hksI : (k : Int) < (s.size : Int) := by omega
      have ha := accH_lt s k
      have hp := Nat.pow_le_pow_right (n := 16) (by omega) (show k ≤ 7 by omega)
      have hacc : accH s k < 268435456 := Nat.lt_of_lt_of_le ha hp
      have HA := Lib.hid (show accH s (k + 1) = 16 * accH s k + dvB s k from rfl)
      have hdl := dvB_lt s k
      have hget : s.data[k]! = s[k] := getElem!_pos s.data k hks
      have HOKB := Lib.hid (show okB s k = (hexV s[k].toNat).isSome by unfold okB; rw [hget])
      have HDV := Lib.hid (show dvB s k = (hexV s[k].toNat).getD 0 by unfold dvB; rw [hget])
      have HBAD := Lib.hid (show okB s k = false → hexOk s = false from fun h => by unfold hexOk; rw [allB_false hlt h, Bool.false_and, Bool.and_false])
      have HSTEP := Lib.hid (show okB s k = true → ∀ j, j < k + 1 → okB s j = true from fun h j hj => by
        by_cases hjk : j = k
        · rw [hjk]; exact h
        · exact HALL.out j (by omega))
      obtain ⟨a, hae⟩ : ∃ a, a = accH s k := ⟨_, rfl⟩
      rw [← hae] at HA hacc ⊢
      obtain ⟨d, hde⟩ : ∃ d, d = dvB s k := ⟨_, rfl⟩
      rw [← hde] at HA HDV hdl
      have hc := s[k].toNat_lt
      obtain ⟨c, hcc⟩ : ∃ c, c = s[k].toNat := ⟨_, rfl⟩
      rw [← hcc] at hc HOKB HDV
      have hcv : ∀ h : k < s.size, (s[k]'h).toNat = c := fun _ => hcc.symm
      have HIX := Lib.hid (fun W z hz => IndexByte_hex c W hc z hz)
      clear ha hp hget hae hde hcc
      cases hv : hexV c with
      | none =>
        have HNO := Lib.hid (HBAD.out (by rw [HOKB.out, hv]; rfl))
        have HI2 := Lib.hid (fun W => HIX.out W (-1) (by rw [hv]))
        clear hv hdl
        go_wp2_with (go_at_call 184; refine (HI2.out _).mono ?_; rintro e w' ⟨rfl, rfl⟩)
        go_ret2
        exact ⟨0, by rw [HNO.out]; rfl, fun h => (by rw [HNO.out] at h; cases h), rfl⟩
      | some d0 =>
        have hdd : d = d0 := by rw [HDV.out, hv]; rfl
        subst hdd
        have HI2 := Lib.hid (fun W => HIX.out W (d : Int) (by rw [hv]))
        have HALL2 := Lib.hid (HSTEP.out (by rw [HOKB.out, hv]; rfl))
        have hor : bits .or .i64 ((a : Int) * 16) (d : Int) = ((16 * a + d : Nat) : Int) := by
          have := i64_or_natX a d hacc hdl
          rwa [show ((16 * a : Nat) : Int) = (a : Int) * 16 by omega] at this
        clear hv
        go_wp2_with (go_at_call 184; refine (HI2.out _).mono ?_; rintro e w' ⟨rfl, rfl⟩)
        go_roundw
        case rel => exact ⟨k + 1, by go_num, by omega, by rw [HA.out]; go_num, HALL2, by trivial⟩
        case measure => simp [intOf]; omega
    · obtain rfl : k = 8 := by omega
      have hall := allB_true HALL.out
      have hsame := hex_same H8.out hall
      have hn : accH s 8 < 4294967296 := accH_lt s 8
      have hok : hexOk s = decide (codeN (accH s 8) = accH s 8) := by unfold hexOk; rw [H8.out, hall, decide_eq_true rfl, Bool.true_and, Bool.true_and]
      have HF := Lib.hid (FromBits_any (accH s 8) w hn)
      have hh := hexOf_any (accH s 8) w hn
      by_cases he : hexS (codeN (accH s 8)) = s
      · have HYES := Lib.hid (show hexOk s = true by rw [hok]; exact decide_eq_true (hsame.1 he))
        rw [he] at hh
        have HH := Lib.hid hh
        clear hall hsame hn hok he hh
        go_wp2_with (first
          | (go_at_call 185; refine HF.out.mono ?_; rintro e w' ⟨rfl, rfl⟩)
          | (go_at_call 118; refine HH.out.mono ?_; rintro e w' ⟨rfl, rfl⟩)
          | fail)
        go_ret2
        exact ⟨accH s 8, by rw [HYES.out]; rfl, fun _ => rfl, rfl⟩
      · have HNO := Lib.hid (show hexOk s = false by rw [hok]; exact decide_eq_false (fun h => he (hsame.2 h)))
        have hne := str_ne he
        obtain ⟨D, hD⟩ : ∃ D, D = hexS (codeN (accH s 8)) := ⟨_, rfl⟩
        rw [← hD] at hh hne
        have HH := Lib.hid hh
        clear hall hsame hn hok he hh hD
        go_wp2_with (first
          | (go_at_call 185; refine HF.out.mono ?_; rintro e w' ⟨rfl, rfl⟩)
          | (go_at_call 118; refine HH.out.mono ?_; rintro e w' ⟨rfl, rfl⟩)
          | fail)
        go_ret2
        exact ⟨accH s 8, by rw [HNO.out]; rfl, fun _ => rfl, rfl⟩
end Go.Proofs.YtgkbbpajkbkgnaaGreatDoor

namespace Go.Proofs.YtgkbbpajkbkgnaaGreatDoor
open Go.RowKit
end Go.Proofs.YtgkbbpajkbkgnaaGreatDoor

namespace Go.Proofs.YtgkbbpajkbkgnaaGreatDoor
open Go.RowKit
end Go.Proofs.YtgkbbpajkbkgnaaGreatDoor

namespace Go.Proofs.YtgkbbpajkbkgnaaGreatDoor
open Go.RowKit
end Go.Proofs.YtgkbbpajkbkgnaaGreatDoor

namespace Go.Proofs.YtgkbbpajkbkgnaaGreatDoor
open Go.RowKit
theorem bytesWorld_below (w : World) (s : ByteArray) : Below w.heap.size w (Lib.bytesWorld w 5 s) :=
  ⟨rfl, rfl, rfl, by rw [Lib.bytesWorld_size]; omega, fun k hk => Lib.bytesWorld_at_old w _ s k hk⟩
end Go.Proofs.YtgkbbpajkbkgnaaGreatDoor

namespace Go.Proofs.YtgkbbpajkbkgnaaGreatDoor
open Go.RowKit Go.Shelf
theorem var_up {P : Program} {w w' : World} {B : Nat} {nm : String} {cs : Array Value} (h : w.var? P nm = some cs) (hb : Below B w w') (hB : w.heap.size ≤ B) : w'.var? P nm = some cs := by
  unfold World.var? at h ⊢
  cases hg : P.globalNamed nm with
  | none => rw [hg] at h; cases h
  | some g =>
    rw [hg] at h
    simp only [Option.bind_some] at h ⊢
    cases hh : w.heap[g]? with
    | none => rw [hh] at h; cases h
    | some o =>
      have hlt : g < w.heap.size := (Array.getElem?_eq_some_iff.1 hh).1
      rw [hb.block g (by omega)]
      exact h
def HasErrs (w : World) : Prop := (∃ tp p, w.var? Tryz.prog "strconv.ErrSyntax" = some #[.iface tp p]) ∧ (∃ tp p, w.var? Tryz.prog "strconv.ErrRange" = some #[.iface tp p])
theorem HasErrs.up {w w' : World} {B : Nat} (h : HasErrs w) (hb : Below B w w') (hB : w.heap.size ≤ B) : HasErrs w' := by
  obtain ⟨⟨a, b, h1⟩, ⟨c, d, h2⟩⟩ := h
  exact ⟨⟨a, b, var_up h1 hb hB⟩, ⟨c, d, var_up h2 hb hB⟩⟩
theorem ParseInt_ok (s : ByteArray) (v : Int) (w : World) (hs : s.size ≤ 1048576) (h : Lib.parseIntB 64 s.data.toList = .ok v) :
    Calls Tryz.prog 141 #[.string s, .int .i64 10, .int .i64 64] w fun e w' => e = .returned (.tuple #[.int .i64 v, .nilIface]) ∧ Below w.heap.size w w' := by
  refine (Any.strconv_ParseInt_10_at64_ok Tryz.laysC174 s (by omega) v h w).mono ?_
  rintro e w' ⟨rfl, rfl | ⟨t, rfl⟩⟩
  · exact ⟨rfl, Below.refl _ _⟩
  · exact ⟨rfl, bytesWorld_below _ _⟩
theorem ParseInt_bad (s : ByteArray) (w : World) (hs : s.size ≤ 1048576) (h : ∀ v, Lib.parseIntB 64 s.data.toList ≠ .ok v) (he : HasErrs w) :
    Calls Tryz.prog 141 #[.string s, .int .i64 10, .int .i64 64] w fun e w' => ∃ z T a, e = .returned (.tuple #[.int .i64 z, .iface T (.pointer (some a))]) ∧ Below w.heap.size w w' := by
  obtain ⟨⟨a, b, h1⟩, ⟨c, d, h2⟩⟩ := he
  cases hp : Lib.parseIntB 64 s.data.toList with
  | ok v => exact absurd hp (h v)
  | range =>
    refine (Any.strconv_ParseInt_10_at64_range_var Tryz.laysC174 s (by omega) hp c d w h2).mono ?_
    rintro e w' ⟨N, rfl, _, _, hb⟩
    exact ⟨_, _, _, rfl, hb⟩
  | _ =>
    refine (Any.strconv_ParseInt_10_at64_syntax_var Tryz.laysC174 s (by omega) hp a b w h1).mono ?_
    rintro e w' ⟨N, rfl, _, _, hb⟩
    exact ⟨_, _, _, rfl, hb⟩
theorem DecimalZ_any (n : Int) (h0 : -1000000000000000 ≤ n) (h1 : n ≤ 1000000000000000) (w : World) (htab : HasPow w) :
    Calls Tryz.prog 15 #[.int .i64 n] w fun e w' => e = .returned (.string (itoaB n)) ∧ Below w.heap.size w w' := by
  have hcon := Tryz.strconv_FormatInt_10 n (by omega) (by omega) w htab
  rw [show (⟨(Lib.itoa n).toArray⟩ : ByteArray) = itoaB n from rfl] at hcon
  clear htab
  go_enter Tryz.func15, Tryz.ntmps15
  go_wp2_with (go_at_call 52; refine hcon.mono ?_; rintro e w' ⟨rfl, k, os, rfl⟩)
  go_ret
  exact ⟨rfl, below_grow (below_drewN (Below.refl _ _) _) _ (Nat.le_refl _)⟩
set_option maxHeartbeats 1000000 in
theorem ReadDecimal_any (s : ByteArray) (w : World) (hs : s.size ≤ 1048576) (hp : HasPow w) (he : HasErrs w) :
    Calls Tryz.prog 84 #[.string s] w fun e w' => e = .returned (.tuple #[.int .i64 (valN s), .bool (valOk s)]) ∧ Below w.heap.size w w' := by
  have HPW := Lib.hid hp
  by_cases hok : ∃ v, Lib.parseIntB 64 s.data.toList = .ok v
  · obtain ⟨v, hv⟩ := hok
    have HP := Lib.hid (ParseInt_ok s v w hs hv)
    have hval : valB s = if (-1000000000000000 ≤ v ∧ v ≤ 1000000000000000) ∧ itoaB v = s then some v else none := by unfold valB; rw [hv]
    clear hp he
    have hw := within_any v (-1000000000000000) 1000000000000000
    by_cases h0 : -1000000000000000 ≤ v ∧ v ≤ 1000000000000000
    · have hd := fun W hW => DecimalZ_any v h0.1 h0.2 W hW
      rw [show inB (-1000000000000000) 1000000000000000 v = true by rw [inB_iff]; exact h0] at hw
      have HW := Lib.hid hw
      by_cases he : itoaB v = s
      · have hval2 : valB s = some v := by rw [hval, if_pos ⟨h0, he⟩]
        have H1 := Lib.hid (show valN s = v by unfold valN; rw [hval2]; rfl)
        have H2 := Lib.hid (show valOk s = true by unfold valOk; rw [hval2]; rfl)
        rw [he] at hd
        have HD := Lib.hid hd
        clear hval hval2 h0 he hw hd hv
        go_enter Tryz.func84, Tryz.ntmps84
        go_wp2_with (first
          | (go_at_call 141; refine HP.out.mono ?_; rintro e w1 ⟨rfl, hb1⟩)
          | (go_at_call 115; refine (HW.out _).mono ?_; rintro e w' ⟨rfl, rfl⟩)
          | (go_at_call 15; refine (HD.out _ (HPW.out.up hb1 (Nat.le_refl _))).mono ?_; rintro e w2 ⟨rfl, hb2⟩)
          | fail)
        go_ret2
        exact ⟨by rw [H1.out, H2.out]; rfl, hb1.trans (hb2.mono hb1.size)⟩
      · have hval2 : valB s = none := by rw [hval, if_neg (fun h => he h.2)]
        have H1 := Lib.hid (show valN s = 0 by unfold valN; rw [hval2]; rfl)
        have H2 := Lib.hid (show valOk s = false by unfold valOk; rw [hval2]; rfl)
        have hne := str_ne he
        obtain ⟨D, hD⟩ : ∃ D, D = itoaB v := ⟨_, rfl⟩
        rw [← hD] at hd hne
        have HD := Lib.hid hd
        clear hval hval2 h0 he hw hd hv hD
        go_enter Tryz.func84, Tryz.ntmps84
        go_wp2_with (first
          | (go_at_call 141; refine HP.out.mono ?_; rintro e w1 ⟨rfl, hb1⟩)
          | (go_at_call 115; refine (HW.out _).mono ?_; rintro e w' ⟨rfl, rfl⟩)
          | (go_at_call 15; refine (HD.out _ (HPW.out.up hb1 (Nat.le_refl _))).mono ?_; rintro e w2 ⟨rfl, hb2⟩)
          | fail)
        go_ret2
        exact ⟨by rw [H1.out, H2.out]; rfl, hb1.trans (hb2.mono hb1.size)⟩
    · have hval2 : valB s = none := by rw [hval, if_neg (fun h => h0 h.1)]
      have H1 := Lib.hid (show valN s = 0 by unfold valN; rw [hval2]; rfl)
      have H2 := Lib.hid (show valOk s = false by unfold valOk; rw [hval2]; rfl)
      rw [show inB (-1000000000000000) 1000000000000000 v = false by apply bool_false; rw [inB_iff]; exact h0] at hw
      have HW := Lib.hid hw
      clear hval hval2 h0 hw hv
      go_enter Tryz.func84, Tryz.ntmps84
      go_wp2_with (first
        | (go_at_call 141; refine HP.out.mono ?_; rintro e w1 ⟨rfl, hb1⟩)
        | (go_at_call 115; refine (HW.out _).mono ?_; rintro e w' ⟨rfl, rfl⟩)
        | fail)
      go_ret2
      exact ⟨by rw [H1.out, H2.out]; rfl, hb1⟩
  · have HP := Lib.hid (ParseInt_bad s w hs (fun v hv => hok ⟨v, hv⟩) he)
    have hval2 : valB s = none := by
      unfold valB
      split
      · rename_i v hv
        exact absurd ⟨v, hv⟩ hok
      · rfl
    have H1 := Lib.hid (show valN s = 0 by unfold valN; rw [hval2]; rfl)
    have H2 := Lib.hid (show valOk s = false by unfold valOk; rw [hval2]; rfl)
    clear hp he hval2 hok
    go_enter Tryz.func84, Tryz.ntmps84
    go_wp2_with (first
      | (go_at_call 141; refine HP.out.mono ?_; rintro e w1 ⟨z, T, a, rfl, hb1⟩)
      | fail)
    go_ret2
    exact ⟨by rw [H1.out, H2.out]; rfl, hb1⟩
end Go.Proofs.YtgkbbpajkbkgnaaGreatDoor

namespace Go.Proofs.YtgkbbpajkbkgnaaGreatDoor
open Go.RowKit
end Go.Proofs.YtgkbbpajkbkgnaaGreatDoor

namespace Go.Proofs.YtgkbbpajkbkgnaaGreatDoor
open Go.RowKit
theorem slcI_one1 (w : World) (x : Int) (b : Nat) (hb : b = w.heap.size) : Slc (w.alloc (.cells #[.int .i64 x] 2)) (.slice (some ⟨b, 0, none⟩) 1 1) ([x].map I64) := by
  subst hb
  have h := World.ownsRow_lit (base := w.heap.size) (e := 2) (size := 1) w #[.int .i64 x] 1 (Nat.le_refl _) (by simp [maxLen]) rfl
  exact slc_of_owns h
theorem ne_none {s : ByteArray} (h : s ≠ noneS) : (s.toList == [110, 111, 110, 101]) = false := by
  have e : noneS.toList = [110, 111, 110, 101] := by rw [ByteArray.toList_eq]; rfl
  have := str_ne h
  rwa [e] at this
theorem divided_any (s : ByteArray) (w : World) (hs : s.size ≤ 1048576) (hm : HasMax w) :
    Calls Tryz.prog 86 #[.string s] w fun e w' => ∃ a cap, e = .returned (.slice a (wsOf s).length cap) ∧ RdSs w' (.slice a (wsOf s).length cap) (wsOf s) ∧ Below w.heap.size w w' := by
  by_cases h : s = noneS
  · subst h
    rw [wsOf_none]
    have h0 : RdSs w (.slice none 0 0) [] := ⟨.inl ⟨rfl, rfl⟩, fun s hs => by cases hs⟩
    clear hs hm
    unfold noneS
    go_enter Tryz.func86, Tryz.ntmps86
    go_wp2_with fail
    go_ret
    exact ⟨none, 0, rfl, h0, Below.refl _ _⟩
  · have HS := Lib.hid (SplitC_any 44 s w hm hs)
    rw [wsOf_not h]
    have hne := ne_none h
    clear h hs hm
    go_enter Tryz.func86, Tryz.ntmps86
    go_wp2_with (go_at_call 83; refine HS.out.mono ?_; rintro e w1 ⟨a, cap, rfl, hr, hb⟩)
    go_ret
    exact ⟨a, cap, rfl, hr, hb⟩
set_option maxHeartbeats 2000000 in
theorem ReadList_any (s : ByteArray) (w : World) (hs : s.size ≤ 1048576) (hp : HasPow w) (hm : HasMax w) (he : HasErrs w) :
    Calls Tryz.prog 31 #[.string s] w fun e w' => ∃ a cap, e = .returned (.tuple #[.slice a (rdV s).length cap, .bool (listOk s)]) ∧ w'.ownsRow w.heap.size 2 1 (.slice a (rdV s).length cap) (rdV s).length ((rdV s).map I64) ∧ Below w.heap.size w w' := by
  have HDV := Lib.hid (divided_any s w hs hm)
  have HPW := Lib.hid hp
  have HER := Lib.hid he
  have hcn := wsOf_cnt s
  have HWA := Lib.hid (fun k h => @wsOf_at s k h)
  have HSZ := Lib.hid hs
  clear hp hm he
  obtain ⟨n, hn⟩ : ∃ n, n = (wsOf s).length := ⟨_, rfl⟩
  rw [← hn] at hcn HDV HWA
  have hnb : n ≤ 2000000 := by omega
  have HN := Lib.hid hn
  clear hn hs hcn
  go_enter Tryz.func31, Tryz.ntmps31
  go_upto_region 2 with fail
  go_wp2_with (go_at_call 86; refine HDV.out.mono ?_; rintro e w1 ⟨wa, wc, rfl, hrs, hb1⟩)
  have HRS := Lib.hid hrs
  have HB1 := Lib.hid hb1
  clear hrs hb1 HDV
  have hz1 := HB1.out.size
  go_loopw [4, 12] (fun ov iv wr => ∃ (k : Nat) (b : Option Addr) (cc : Nat), iv = .int .i64 k ∧ k ≤ n ∧ ov = .slice b k cc ∧ Hid (wr.ownsRow w1.heap.size 2 1 (.slice b k cc) k ((valsK s k).map I64)) ∧ Hid (∀ j, j < k → valOk ((wsOf s).getD j E0) = true) ∧ Hid (Below w1.heap.size w1 wr)) (fun _ iv _ => n + 1 - (intOf iv).toNat)
  case atStart => exact ⟨0, none, 0, rfl, Nat.zero_le _, rfl, Lib.hid (World.ownsRow_nil _ _ _ _), Lib.hid (by intro j hj; omega), Lib.hid (Below.refl _ _)⟩
  case round =>
    obtain ⟨k, b, cc, rfl, hk, rfl, HO, HALL, HB⟩ := hrel
    obtain ⟨wo, rfl⟩ : ∃ wo, wo = wr := ⟨wr, rfl⟩
    have hsz := HB.out.size
    by_cases hlt : k < n
    · have hlt' : (k : Int) < n := by omega
      have hlw : k < (wsOf s).length := by rw [← HN.out]; exact hlt
      obtain ⟨xb, xo, rfl, _, hx⟩ := (HRS.out.up HB.out (Nat.le_refl _)).at hlw
      have hxs := HWA.out k hlt
      have HE := Lib.hid (valsK_succ s k hlw)
      have HBAD := Lib.hid (fun h => listOk_bad hlw h)
      have HSTEP := Lib.hid (fun (h : valOk ((wsOf s).getD k E0) = true) => (show ∀ j, j < k + 1 → valOk ((wsOf s).getD j E0) = true from fun j hj => by
        by_cases hjk : j = k
        · rw [hjk]; exact h
        · exact HALL.out j (by omega)))
      obtain ⟨x, hxe⟩ : ∃ x, x = (wsOf s).getD k E0 := ⟨_, rfl⟩
      rw [← hxe] at hx hxs HE HBAD HSTEP
      clear hxe
      have HRD := Lib.hid (ReadDecimal_any x wo (Nat.le_trans hxs HSZ.out) (HPW.out.up (HB1.out.trans (HB.out.mono hz1)) (Nat.le_refl _)) (HER.out.up (HB1.out.trans (HB.out.mono hz1)) (Nat.le_refl _)))
      obtain ⟨z, hz⟩ : ∃ z, z = valN x := ⟨_, rfl⟩
      obtain ⟨q, hq⟩ : ∃ q, q = valOk x := ⟨_, rfl⟩
      rw [← hz] at HRD HE
      rw [← hq] at HRD HBAD HSTEP
      clear hz hq hxs
      cases q
      · have HNO := Lib.hid (HBAD.out rfl)
        have HRV := Lib.hid (rdV_no HNO.out)
        go_wp2_with (first
          | (go_at_call 84; refine HRD.out.mono ?_; rintro e w2 ⟨rfl, hb2⟩)
          | fail)
        go_ret2
        refine ⟨none, 0, ?_, ?_, HB1.out.trans ((HB.out.trans (hb2.mono hsz)).mono hz1)⟩
        · rw [HNO.out, HRV.out]; rfl
        · rw [HRV.out]; exact World.ownsRow_nil _ _ _ _
      · have HALL2 := Lib.hid (HSTEP.out rfl)
        go_wp2_with (first
          | (go_at_call 84; refine HRD.out.mono ?_; rintro e w2 ⟨rfl, hb2⟩; have HO1 := Lib.hid (owns_below HO.out hb2 (Nat.le_refl _)); have hsz2 := Nat.le_trans hsz hb2.size)
          | (at_builtin; refine app_ints rfl _ _ rfl w1.heap.size (.slice b k cc) k (valsK s k) rfl (HO1.out.alloc _) _ [z] rfl (slcI_one1 w2 z _ rfl) (k + 1) (valsK s (k + 1)) (by simp) HE.out (by omega) (by simp; omega) ?_; intro b3 c3 w3 hown3 hbl3 _ _)
          | fail)
        go_roundw
        case rel => exact ⟨k + 1, b3, c3, by go_num, by omega, rfl, Lib.hid hown3, HALL2, Lib.hid (HB.out.trans ((hb2.mono hsz).trans (((Below.refl _ _).alloc hsz2 _).trans hbl3)))⟩
        case measure => simp [intOf]; omega
    · obtain rfl : k = n := by omega
      have HOK := Lib.hid (listOk_all (s := s) (by rw [← HN.out]; exact HALL.out))
      have HVK := Lib.hid (show valsK s k = (wsOf s).map valN by rw [HN.out]; exact valsK_all s)
      have hrd : RdI wo (.slice b k cc) ((wsOf s).map valN) := by
        have := slc_of_owns HO.out
        rwa [HVK.out] at this
      have HAI := Lib.hid (areItems_any _ _ wo hrd)
      have hai := vals_allIn (s := s) (by rw [← HN.out]; exact HALL.out)
      rw [hai, List.length_map, ← HN.out, Bool.and_true] at HAI
      rw [← HN.out] at HOK
      by_cases h64 : k ≤ 64
      · have hd : decide (k ≤ 64) = true := decide_eq_true h64
        rw [hd] at HAI HOK
        have HRV := Lib.hid (rdV_ok HOK.out)
        have HRL := Lib.hid (show (rdV s).length = k by rw [HRV.out, List.length_map]; exact HN.out.symm)
        clear hrd hai hd
        go_wp2_with (first
          | (go_at_call 49; refine HAI.out.mono ?_; rintro e w2 ⟨rfl, rfl⟩)
          | fail)
        go_ret2
        refine ⟨b, cc, ?_, ?_, HB1.out.trans (HB.out.mono hz1)⟩
        · rw [HOK.out, HRL.out]; rfl
        · rw [HRL.out, HRV.out, ← HVK.out]; exact owns_base HO.out hz1
      · have hd : decide (k ≤ 64) = false := decide_eq_false h64
        rw [hd] at HAI HOK
        have HRV := Lib.hid (rdV_no HOK.out)
        clear hrd hai hd
        go_wp2_with (first
          | (go_at_call 49; refine HAI.out.mono ?_; rintro e w2 ⟨rfl, rfl⟩)
          | fail)
        go_ret2
        refine ⟨none, 0, ?_, ?_, HB1.out.trans (HB.out.mono hz1)⟩
        · rw [HOK.out, HRV.out]; rfl
        · rw [HRV.out]; exact World.ownsRow_nil _ _ _ _
end Go.Proofs.YtgkbbpajkbkgnaaGreatDoor
