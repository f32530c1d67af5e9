/-
  FnJournal: texts joined: ScaleI, CountC, DeskV, CmdM.
-/
import Derived.Deep.CutRange
import Derived.Test.YtgkbbpajkbkgnaaGreatDoorMFnJournalAF
import Derived.Test.YtgkbbpajkbkgnaaGreatDoorMFnJournalAN
import Derived.Test.YtgkbbpajkbkgnaaGreatDoorMFnJournalAO
import Derived.Test.YtgkbbpajkbkgnaaGreatDoorMFnJournalAP
import Derived.Test.YtgkbbpajkbkgnaaGreatDoorMFnJournalAS
import Derived.Test.YtgkbbpajkbkgnaaGreatDoorMFnJournalAV
import Derived.Test.YtgkbbpajkbkgnaaGreatDoorMFnJournalAW
import Derived.Test.YtgkbbpajkbkgnaaGreatDoorMFnJournalAX
import Derived.Test.YtgkbbpajkbkgnaaGreatDoorMFnJournalAY
import Derived.Test.YtgkbbpajkbkgnaaGreatDoorMFnJournalAZ
set_option linter.unusedVariables false
set_option linter.unusedSimpArgs false
namespace Go.Proofs.YtgkbbpajkbkgnaaGreatDoor
open Go.RowKit
theorem RdF.cellAt {w : World} {b off n c : Nat} {xs : List Nat} (h : RdF w (.slice (some ⟨b, off, none⟩) n c) xs) {j : Nat} (hj : j < xs.length) : w.cell? ⟨b, off + j, none⟩ = some (.float .f32 (xs.getD j 0)) := by
  obtain ⟨b', off', e, _, hc⟩ := h.at hj
  simp only [Option.some.injEq, Addr.mk.injEq, and_true] at e
  obtain ⟨rfl, rfl⟩ := e
  exact hc
theorem row_atB (V i n c b off m o : Nat) (v2 v3 : Value) (w : World) (hm : m = i * V) (ho : o = off + m) (hv1 : 1 ≤ V) (hv8 : V ≤ 8) (hi8 : i < 8) (hmm : m + V ≤ n) (hx64 : n ≤ 64) (hc1a : n ≤ c) (hc1b : c ≤ maxLen) :
    Calls Tryz.prog 75 #[.agg #[.int .i64 V, .slice (some ⟨b, off, none⟩) n c, v2, v3], .int .i64 i] w fun e w' => e = .returned (.slice (some ⟨b, o, none⟩) V (c - m)) ∧ Below w.heap.size w w' := by
  subst hm ho
  exact row_at V i n c b off v2 v3 w hv1 hv8 hi8 hmm hx64 hc1a hc1b
theorem RdF.caps {w : World} {ad : Addr} {n c : Nat} {xs : List Nat} (h : RdF w (.slice (some ad) n c) xs) : n ≤ c ∧ c ≤ maxLen := by
  rcases h with ⟨e, _⟩ | ⟨ad', cap', e, q1, q2, _⟩
  · cases e
  · simp only [Value.slice.injEq] at e
    obtain ⟨_, rfl, rfl⟩ := e
    exact ⟨q1, q2⟩
theorem OwnR.apart {lo hi : Nat} {w : World} {x0 x y z : Value} {r : RowsD} (h : OwnR lo hi w (.agg #[x0, x, y, z]) r) : (∀ g, x.ownBlock = some g → y.ownBlock ≠ some g) ∧ (∀ g, x.ownBlock = some g → z.ownBlock ≠ some g) ∧ (∀ g, y.ownBlock = some g → z.ownBlock ≠ some g) := by
  obtain ⟨va, vb, vc, e, h1, h2, h3, d⟩ := h
  simp only [Value.agg.injEq, Array.mk.injEq, List.cons.injEq, and_true] at e
  obtain ⟨_, rfl, rfl, rfl⟩ := e
  exact d
theorem ownF_cell {w : World} {lo g n cap j : Nat} {xs : List Nat} (h : w.ownsRow lo 100 1 (.slice (some ⟨g, 0, none⟩) n cap) n (xs.map F32)) (hn : xs.length = n) (hj : j < n) : w.cell? ⟨g, j, none⟩ = some (.float .f32 (xs.getD j 0)) := by
  have := h.cellAt j (by omega)
  rw [this, List.getElem?_map, List.getD_eq_getElem?_getD, List.getElem?_eq_getElem (by omega)]
  rfl
theorem run_max {P : Program} {mo a r : Nat} (ats : Array TypeId) (ty : TypeId) (hr : mxF mo a = r) (hm : fin32 mo = true) (ha : fin32 a = true) (hl : mo < 2147483648) (W : World) :
    (Builtin.max_ ats ty #[.float .f32 mo, .float .f32 a]).run P W = .ok (.float .f32 r) W := by
  subst hr
  unfold mxF
  by_cases hg : gtF a mo = true
  · have og := gt_lt hg
    rw [if_pos hg]
    simp [Builtin.max_, Builtin.max2, og]
  · rw [if_neg hg]
    rw [Bool.not_eq_true] at hg
    have hneg := pos_neg hl hm
    rcases not_gt ha hm hg with og | og
    · simp [Builtin.max_, Builtin.max2, og]
    · simp [Builtin.max_, Builtin.max2, og, hneg]
theorem ownF_set {w : World} {lo g n cap : Nat} {xs ys : List Nat} (h : w.ownsRow lo 100 1 (.slice (some ⟨g, 0, none⟩) n cap) n (xs.map F32)) (j : Nat) (z : Nat) (hy : xs.set j z = ys) : (w.setCell ⟨g, j, none⟩ (.float .f32 z)).ownsRow lo 100 1 (.slice (some ⟨g, 0, none⟩) n cap) n (ys.map F32) := by
  have h1 := (h.stored j (.float .f32 z)).1
  rw [← hy, List.map_set]
  exact h1
set_option maxHeartbeats 4000000 in
set_option maxRecDepth 4000 in
theorem scaleI_any (v : Value) (r : RowsD) (w : World) (h : RdR w v r) :
    Calls Tryz.prog 25 #[v] w fun e w' => ∃ v', e = .returned (.tuple #[v', .bool (scaleOk r)]) ∧ OwnR w.heap.size w'.heap.size w' v' (scaleV r) ∧ Below w.heap.size w w' := by
  obtain ⟨a1, c1, a2, c2, a3, c3, rfl⟩ := h.shape
  obtain ⟨n0, x1, x2, x3⟩ := r
  simp only at h ⊢
  obtain ⟨R, hR⟩ : ∃ R : RowsD, R = ⟨n0, x1, x2, x3⟩ := ⟨_, rfl⟩
  have hR1 : R.nums = x1 := by rw [hR]
  have hR2 : R.bnds = x2 := by rw [hR]
  have hR3 : R.gains = x3 := by rw [hR]
  have hR0 : R.vars = n0 := by rw [hR]
  rw [← hR] at h ⊢
  obtain ⟨OK, hOK⟩ : ∃ OK : Bool, OK = scaleOk R := ⟨_, rfl⟩
  obtain ⟨AV, hAV⟩ : ∃ AV : RowsD, AV = scaleV R := ⟨_, rfl⟩
  rw [← hOK, ← hAV]
  obtain ⟨N1, hN1⟩ : ∃ N1, N1 = x1.length := ⟨_, rfl⟩
  obtain ⟨N2, hN2⟩ : ∃ N2, N2 = x2.length := ⟨_, rfl⟩
  obtain ⟨V, hV⟩ : ∃ V, V = x3.length := ⟨_, rfl⟩
  rw [← hN1, ← hN2, ← hV] at h ⊢
  have HP := Lib.hid h
  have HOK := Lib.hid hOK
  have HAV := Lib.hid hAV
  have HN1 := Lib.hid (hN1.trans (by rw [hR1]) : N1 = R.nums.length)
  have HN2 := Lib.hid (hN2.trans (by rw [hR2]) : N2 = R.bnds.length)
  have HV := Lib.hid (hV.trans (by rw [hR3]) : V = R.gains.length)
  have HR0 := Lib.hid hR0
  clear h hOK hAV hN1 hN2 hV hR hR0 hR1 hR2 hR3
  go_enter Tryz.func25, Tryz.ntmps25
  go_upto_region 1 with fail
  refine wp_at fun W hW => ?_
  have HB := Lib.hid (show Below w.heap.size w W by subst hW; (repeat' first | exact Below.refl _ _ | assumption | refine Below.alloc ?_ ?_ _ | refine Below.setCell ?_ ?_ _ | refine Below.drew ?_ | (simp; done) | (simp; omega)))
  have HK := Lib.hid (show Blk W w.heap.size 26 #[.int .i64 n0, .slice a1 N1 c1, .slice a2 N2 c2, .slice a3 V c3] by subst hW; exact (Blk.new _ _ _).alloc _)
  have HL := Lib.hid (show Blk W (w.heap.size + 1) 26 #[.int .i64 0, .slice none 0 0, .slice none 0 0, .slice none 0 0] by subst hW; exact Blk.newB _ _ _ _ (by simp))
  clear hW
  have hl1 := HL.out.lt
  have HPW := Lib.hid (HP.out.up HB.out (Nat.le_refl _))
  have d0 := HK.out.cell 0 rfl
  have d1 := HK.out.cell 1 rfl
  have d2 := HK.out.cell 2 rfl
  have d3 := HK.out.cell 3 rfl
  go_wp2_with fail
  refine (ValidRows_any _ R W HPW.out).mono ?_
  rintro e wc ⟨rfl, hbw⟩
  have HBw := Lib.hid hbw
  have hsz := hbw.size
  have HLc := Lib.hid (HL.out.below hbw HL.out.lt)
  have HKc := Lib.hid (HK.out.below hbw HK.out.lt)
  clear hbw d0 d1 d2 d3
  by_cases hv : validR R = true
  case neg =>
    rw [Bool.not_eq_true] at hv
    have HVN := Lib.hid hv
    rw [hv]
    clear hv
    have e0 := HLc.out.cell 0 rfl
    have e1 := HLc.out.cell 1 rfl
    have e2 := HLc.out.cell 2 rfl
    have e3 := HLc.out.cell 3 rfl
    have f0 := HLc.out.free 0
    have f1 := HLc.out.free 1
    have f2 := HLc.out.free 2
    have f3 := HLc.out.free 3
    go_wp2_with fail
    refine bodyPost_ret (v := .tuple #[.agg #[.int .i64 0, .slice none 0 0, .slice none 0 0, .slice none 0 0], .bool false]) (by simp [results, Tryz.results25, go_sem, *]) rfl ?_
    have hok : scaleOk R = false := by unfold scaleOk; rw [HVN.out]; rfl
    refine ⟨_, by rw [HOK.out, hok], ?_, ?_⟩
    · rw [HAV.out, scaleV, hok]; exact ownR_zero _ _ _
    · refine (HB.out.trans (HBw.out.mono HB.out.size)).trans (Kept.toBelow (S := (· = w.heap.size + 1)) ?_ (by omega) (by intro k h1 h2; omega))
      repeat' first | exact Kept.refl _ _ | refine Kept.setCell ?_ (.inr (by simp)) _
  have HVR := Lib.hid (validR_iff.1 hv)
  rw [hv]
  clear hv
  have HPc := Lib.hid (HP.out.up (HB.out.trans (HBw.out.mono HB.out.size)) (Nat.le_refl _))
  have hbo := boundR HP.out HVR.out
  rw [← HN1.out, ← HN2.out, ← HV.out] at hbo
  obtain ⟨hb64, hb8, hv8⟩ := hbo
  have hv1 : 1 ≤ V := by have h1 := HVR.out.v1; have h2 := HVR.out.gl; have h3 := HV.out; omega
  have hn2 : 1 ≤ N2 := by have h1 := HVR.out.b1; have h3 := HN2.out; omega
  have hn0 : n0 = (V : Int) := by have h2 := HVR.out.gl; have h3 := HV.out; have h4 := HR0.out; omega
  have hnl : N1 = N2 * V := by
    have h1 := HVR.out.nl
    rw [← HN1.out, ← HN2.out, HR0.out, hn0, Int.mul_comm] at h1
    exact_mod_cast h1
  subst hn0
  have HNL := Lib.hid hnl
  have hn1 : 1 ≤ N1 := by rw [hnl]; exact Nat.mul_pos hn2 hv1
  clear hnl
  have d0 := HKc.out.cell 0 rfl
  have d1 := HKc.out.cell 1 rfl
  have d2 := HKc.out.cell 2 rfl
  have d3 := HKc.out.cell 3 rfl
  go_upto_region 4 with (go_at_call 74; refine (ownRows_any _ R _ HPc.out (by have := HN1.out; have := HN2.out; have := HV.out; simp only [bulkR]; omega)).mono ?_; rintro e w1 ⟨v', rfl, ho, hb1⟩; obtain ⟨b1, k1, b2, k2, b3, k3, rfl⟩ := ho.rd.shape; rw [← HN1.out, ← HN2.out, ← HV.out, HR0.out] at ho ⊢; have HO := Lib.hid ho; have HB1 := Lib.hid hb1; have hs1 := hb1.size; clear ho hb1)
  refine wp_at fun W4 hW4 => ?_
  have HG := Lib.hid (show Blk W4 w1.heap.size 26 #[.int .i64 V, .slice b1 N1 k1, .slice b2 N2 k2, .slice b3 V k3] by subst hW4; exact Blk.newB _ _ _ _ (by simp))
  have HO4 := Lib.hid (show OwnR wc.heap.size w1.heap.size W4 (.agg #[.int .i64 V, .slice b1 N1 k1, .slice b2 N2 k2, .slice b3 V k3]) R by
    subst hW4; exact HO.out.up ((Below.refl _ _).alloc (Nat.le_refl _) _) (Nat.le_refl _))
  have HB4 := Lib.hid (show Below wc.heap.size wc W4 by subst hW4; exact HB1.out.alloc HB1.out.size _)
  have hs4 : w1.heap.size < W4.heap.size := HG.out.lt
  clear hW4 HO HB1 d0 d1 d2 d3
  obtain ⟨G, hGe⟩ : ∃ G, G = w1.heap.size := ⟨_, rfl⟩
  rw [← hGe] at HG HO4 hs4 hs1 ⊢
  clear hGe
  have o1 : W4.ownsRow wc.heap.size 100 1 (.slice b1 N1 k1) N1 ((stN R (0 * V)).map F32) := by have := HO4.out.parts.1.1; rw [← HN1.out] at this; rw [Nat.zero_mul, stN_zero]; exact this
  have o2 : W4.ownsRow wc.heap.size 100 1 (.slice b2 N2 k2) N2 ((stB R 0).map F32) := by have := HO4.out.parts.2.1.1; rw [← HN2.out] at this; rw [stB_zero]; exact this
  have o3 : W4.ownsRow wc.heap.size 100 1 (.slice b3 V k3) V (R.gains.map F32) := by have := HO4.out.parts.2.2.1; rw [← HV.out] at this; exact this
  obtain ⟨g1, rfl, hg1⟩ := owns_slice_some o1 hn1
  obtain ⟨g2, rfl, hg2⟩ := owns_slice_some o2 hn2
  obtain ⟨g3, rfl, hg3⟩ := owns_slice_some o3 hv1
  have hh1 : g1 < G := HO4.out.parts.1.2 g1 rfl
  have hh2 : g2 < G := HO4.out.parts.2.1.2 g2 rfl
  have hh3 : g3 < G := HO4.out.parts.2.2.2 g3 rfl
  have n12 : ¬ g1 = g2 := fun e => HO4.out.apart.1 g1 rfl (by rw [e]; rfl)
  have n13 : ¬ g1 = g3 := fun e => HO4.out.apart.2.1 g1 rfl (by rw [e]; rfl)
  have n23 : ¬ g2 = g3 := fun e => HO4.out.apart.2.2 g2 rfl (by rw [e]; rfl)
  have kc1 := (HO4.out.parts.1.rd).caps
  have kc2 := (HO4.out.parts.2.1.rd).caps
  obtain ⟨b, off, rfl, _, _⟩ := (show RdF wc (.slice a1 N1 c1) R.nums from HPc.out.parts.1).at (show 0 < R.nums.length by rw [← HN1.out]; exact hn1)
  have kca := (show RdF wc (.slice (some ⟨b, off, none⟩) N1 c1) R.nums from HPc.out.parts.1).caps
  have HO1 := Lib.hid o1
  have HO2 := Lib.hid o2
  have HO3 := Lib.hid o3
  have gc2 := HG.out.cell 2 rfl
  clear o1 o2 o3 HO4
  go_wp2_with fail
  clear gc2
  go_loopw [19] (fun iv wr => ∃ i : Nat, iv = .int .i64 i ∧ i ≤ N2 ∧ Hid (wr.ownsRow wc.heap.size 100 1 (.slice (some ⟨g1, 0, none⟩) N1 k1) N1 ((stN R (i * V)).map F32)) ∧ Hid (wr.ownsRow wc.heap.size 100 1 (.slice (some ⟨g2, 0, none⟩) N2 k2) N2 ((stB R i).map F32)) ∧ Hid (wr.ownsRow wc.heap.size 100 1 (.slice (some ⟨g3, 0, none⟩) V k3) V (R.gains.map F32)) ∧ Hid (Blk wr G 26 #[.int .i64 V, .slice (some ⟨g1, 0, none⟩) N1 k1, .slice (some ⟨g2, 0, none⟩) N2 k2, .slice (some ⟨g3, 0, none⟩) V k3]) ∧ Hid (Below wc.heap.size wc wr)) (fun iv _ => N2 - (intOf iv).toNat)
  case atStart => exact ⟨0, rfl, Nat.zero_le _, HO1, HO2, HO3, HG, HB4⟩
  case round =>
    clear HO1 HO2 HO3 HG HB4
    obtain ⟨i, rfl, hi, HO1, HO2, HO3, HG, HB4⟩ := hrel
    obtain ⟨wo, rfl⟩ : ∃ wo, wo = wr := ⟨wr, rfl⟩
    have hsw := HB4.out.size
    by_cases hlt : i < N2
    · have hltI : (i : Int) < (N2 : Int) := by omega
      obtain ⟨m, hm⟩ : ∃ m, m = i * V := ⟨_, rfl⟩
      have hmm : m + V ≤ N1 := by
        rw [hm, HNL.out, ← Nat.succ_mul]
        exact Nat.mul_le_mul_right _ hlt
      have HM := Lib.hid hm
      rw [← hm] at HO1
      clear hm
      have HKw := Lib.hid (HKc.out.below HB4.out (show w.heap.size < wc.heap.size by omega))
      have d0 := HKw.out.cell 0 rfl
      have d1 := HKw.out.cell 1 rfl
      have d2 := HKw.out.cell 2 rfl
      have d3 := HKw.out.cell 3 rfl
      go_wp2_with fail
      refine (row_atB V i N1 c1 b off m (off + m) _ _ wo HM.out rfl hv1 hv8 (by omega) hmm hb64 kca.1 kca.2).mono ?_
      rintro e wA ⟨rfl, hbA⟩
      have HBA := Lib.hid (HB4.out.trans (hbA.mono hsw))
      have HOA1 := Lib.hid (owns_below HO1.out hbA (Nat.le_refl _))
      have HOA2 := Lib.hid (owns_below HO2.out hbA (Nat.le_refl _))
      have HOA3 := Lib.hid (owns_below HO3.out hbA (Nat.le_refl _))
      have HGA := Lib.hid (HG.out.below hbA HG.out.lt)
      have HROW := Lib.hid (show ∀ k, k < V → wA.cell? ⟨b, off + m + k, none⟩ = some (.float .f32 ((rowO R i).getD k 0)) from fun k hk => by
        have hp := (show RdF wA (.slice (some ⟨b, off, none⟩) N1 c1) R.nums from (HPc.out.up HBA.out (Nat.le_refl _)).parts.1).cellAt (j := m + k) (by rw [← HN1.out]; omega)
        rw [rowO_at (by rw [← HV.out]; exact hk), ← HV.out, ← HM.out, Nat.add_assoc]
        exact hp)
      have HRF := Lib.hid (rowO_fin HVR.out i)
      have HRL := Lib.hid (show (rowO R i).length = V by rw [rowO_len HVR.out (by rw [← HN2.out]; exact hlt), ← HV.out])
      have hsA := hbA.size
      clear hbA d0 d1 d2 d3
      go_wp2_with fail
      go_loop [6, 26] (fun mv kv => ∃ k : Nat, kv = .int .i64 k ∧ k ≤ V ∧ mv = .float .f32 (mostK (rowO R i) k)) (fun _ kv => V - (intOf kv).toNat)
      case atStart => exact ⟨0, rfl, Nat.zero_le _, rfl⟩
      case round =>
        obtain ⟨k, rfl, hk, rfl⟩ := hrel
        have HMK := Lib.hid (mostK_ok HRF.out k (by rw [HRL.out]; exact hk))
        by_cases hkV : k < V
        · have hkI : (k : Int) < (V : Int) := by omega
          have ck := HROW.out k hkV
          have HS := Lib.hid (show mostK (rowO R i) (k + 1) = mxF (mostK (rowO R i) k) (abs32 ((rowO R i).getD k 0)) from rfl)
          have HXF := Lib.hid (allFin_get HRF.out (i := k) (by rw [HRL.out]; exact hkV))
          obtain ⟨x, hx⟩ : ∃ x, x = (rowO R i).getD k 0 := ⟨_, rfl⟩
          obtain ⟨mo, hmo⟩ : ∃ mo, mo = mostK (rowO R i) k := ⟨_, rfl⟩
          rw [← hx] at ck HS HXF
          rw [← hmo] at HS HMK ⊢
          clear hx hmo
          have hmx := fun (W : World) => run_max (P := Tryz.prog) #[100, 100] 100 HS.out.symm HMK.out.1 (abs_fin HXF.out) HMK.out.2 W
          go_wp2_with (go_at_call 76; refine (absolute_any x HXF.out _).mono ?_; rintro e w' ⟨rfl, rfl⟩)
          go_round
          case rel => exact ⟨k + 1, by go_num, by omega, rfl⟩
          case measure => simp [intOf]; omega
        · obtain rfl : k = V := by omega
          obtain ⟨mo, hmo⟩ : ∃ mo, mo = mostK (rowO R i) k := ⟨_, rfl⟩
          rw [← hmo] at HMK ⊢
          have HMO := Lib.hid (show mostR R i = mo by unfold mostR; rw [← HV.out, hmo])
          clear hmo
          by_cases hp : posR R i = true
          · have HPOS := Lib.hid hp
            have hb := yes_gt_b (show gtF mo 0 = true by have := hp; unfold posR at this; rwa [HMO.out] at this)
            have HDG := Lib.hid (show gtF mo 0 = true by have := hp; unfold posR at this; rwa [HMO.out] at this)
            clear hp
            have d0 := HGA.out.cell 0 rfl
            have d1 := HGA.out.cell 1 rfl
            have d2 := HGA.out.cell 2 rfl
            have d3 := HGA.out.cell 3 rfl
            go_wp2_with fail
            refine (row_atB k i N1 k1 g1 0 m m _ _ wA HM.out (by omega) hv1 hv8 (by omega) hmm hb64 kc1.1 kc1.2).mono ?_
            rintro e wB ⟨rfl, hbB⟩
            have HBB := Lib.hid (HBA.out.trans (hbB.mono (by omega)))
            have HOB1 := Lib.hid (owns_below HOA1.out hbB (Nat.le_refl _))
            have HOB2 := Lib.hid (owns_below HOA2.out hbB (Nat.le_refl _))
            have HOB3 := Lib.hid (owns_below HOA3.out hbB (Nat.le_refl _))
            have HGB := Lib.hid (HGA.out.below hbB HGA.out.lt)
            clear hbB d0 d1 d2 d3 hb
            go_wp2_with fail
            go_loopw [41] (fun kv wq => ∃ j : Nat, kv = .int .i64 j ∧ j ≤ k ∧ Hid (wq.ownsRow wc.heap.size 100 1 (.slice (some ⟨g1, 0, none⟩) N1 k1) N1 ((stN R (m + j)).map F32)) ∧ Hid (wq.ownsRow wc.heap.size 100 1 (.slice (some ⟨g2, 0, none⟩) N2 k2) N2 ((stB R i).map F32)) ∧ Hid (wq.ownsRow wc.heap.size 100 1 (.slice (some ⟨g3, 0, none⟩) k k3) k (R.gains.map F32)) ∧ Hid (Blk wq G 26 #[.int .i64 k, .slice (some ⟨g1, 0, none⟩) N1 k1, .slice (some ⟨g2, 0, none⟩) N2 k2, .slice (some ⟨g3, 0, none⟩) k k3]) ∧ Hid (Below wc.heap.size wc wq)) (fun kv _ => k - (intOf kv).toNat)
            case atStart => exact ⟨0, rfl, Nat.zero_le _, HOB1, HOB2, HOB3, HGB, HBB⟩
            case round =>
              clear HOB1 HOB2 HOB3 HGB HBB
              obtain ⟨j, rfl, hj, HOB1, HOB2, HOB3, HGB, HBB⟩ := hrel
              obtain ⟨wp, rfl⟩ : ∃ wp, wp = wr := ⟨wr, rfl⟩
              have hsp := HBB.out.size
              by_cases hjk : j < k
              · have hjI : (j : Int) < (k : Int) := by omega
                have d0 := HGB.out.cell 0 rfl
                have d1 := HGB.out.cell 1 rfl
                have d2 := HGB.out.cell 2 rfl
                have d3 := HGB.out.cell 3 rfl
                have hmj : m + j < N1 := by omega
                have HXN := Lib.hid (allFin_get HVR.out.fn (i := m + j) (by rw [← HN1.out]; exact hmj))
                have hq := fun (W : World) => run_div_some (P := Tryz.prog) 100 (div_some HXN.out HMK.out.1 HDG.out) W
                have HSC := Lib.hid (show scN R (m + j) = divV (R.nums.getD (m + j) 0) mo by
                  have := scN_pos HPOS.out (k := j) (by rw [← HV.out]; exact hjk)
                  rw [← HV.out, ← HM.out, HMO.out] at this
                  exact this)
                obtain ⟨x, hx⟩ : ∃ x, x = R.nums.getD (m + j) 0 := ⟨_, rfl⟩
                have HXE := Lib.hid (show (stN R (m + j)).getD (m + j) 0 = x by rw [stN_at R (by rw [← HN1.out]; exact hmj) (Nat.le_refl _), hx])
                rw [← hx] at hq HSC
                obtain ⟨y, hy⟩ : ∃ y, y = divV x mo := ⟨_, rfl⟩
                rw [← hy] at hq HSC
                clear hx hy
                go_wp2_with (go_at_call 75; refine (row_atB k i N1 k1 g1 0 m m _ _ wp HM.out (by omega) hv1 hv8 (by omega) hmm hb64 kc1.1 kc1.2).mono ?_; rintro e wq ⟨rfl, hbq⟩; have HBQ := Lib.hid hbq; have HOQ := Lib.hid (owns_below HOB1.out hbq (Nat.le_refl _)); have cx := ownF_cell HOQ.out (by rw [stN_len, ← HN1.out]) hmj; rw [HXE.out] at cx; have fx := HOQ.out.frozenAt (m + j); clear hbq d0 d1 d2 d3)
                go_roundw
                case rel =>
                  refine ⟨j + 1, by go_num, by omega, Lib.hid ?_, Lib.hid ?_, Lib.hid ?_, Lib.hid ?_, Lib.hid ?_⟩
                  · exact ownF_set HOQ.out (m + j) y (by rw [← HSC.out, stN_set R (by rw [← HN1.out]; exact hmj)]; rfl)
                  · exact ownsRow_setCell_other (owns_below HOB2.out HBQ.out (Nat.le_refl _)) (by intro e; cases e; exact n12 rfl) _
                  · exact ownsRow_setCell_other (owns_below HOB3.out HBQ.out (Nat.le_refl _)) (by intro e; cases e; exact n13 rfl) _
                  · exact (HGB.out.below HBQ.out HGB.out.lt).other (show G ≠ g1 by omega) _
                  · exact (HBB.out.trans (HBQ.out.mono hsp)).setCell (show wc.heap.size ≤ g1 by omega) _
                case measure => simp [intOf]; omega
              · obtain rfl : j = k := by omega
                have d2 := HGB.out.cell 2 rfl
                have HXN := Lib.hid (least_fin (HVR.out.lb i (by rw [← HN2.out]; exact hlt)))
                have hq := fun (W : World) => run_div_some (P := Tryz.prog) 100 (div_some HXN.out HMK.out.1 HDG.out) W
                have HSC := Lib.hid (show scB R i = divV (R.bnds.getD i 0) mo by rw [scB_pos HPOS.out, HMO.out])
                obtain ⟨x, hx⟩ : ∃ x, x = R.bnds.getD i 0 := ⟨_, rfl⟩
                have cx := ownF_cell HOB2.out (by rw [stB_len, ← HN2.out]) hlt
                rw [stB_at R (by rw [← HN2.out]; exact hlt) (Nat.le_refl _), ← hx] at cx
                have fx := HOB2.out.frozenAt i
                rw [← hx] at hq HSC
                obtain ⟨y, hy⟩ : ∃ y, y = divV x mo := ⟨_, rfl⟩
                rw [← hy] at hq HSC
                clear hx hy
                go_wp2_with fail
                go_roundw
                case rel =>
                  refine ⟨i + 1, by go_num, by omega, Lib.hid ?_, Lib.hid ?_, Lib.hid ?_, Lib.hid ?_, Lib.hid ?_⟩
                  · rw [Nat.succ_mul, ← HM.out]
                    exact ownsRow_setCell_other HOB1.out (by intro e; cases e; exact n12 rfl) _
                  · exact ownF_set HOB2.out i y (by rw [← HSC.out, stB_set R (by rw [← HN2.out]; exact hlt)])
                  · exact ownsRow_setCell_other HOB3.out (by intro e; cases e; exact n23 rfl) _
                  · exact HGB.out.other (show G ≠ g2 by omega) _
                  · exact HBB.out.setCell (show wc.heap.size ≤ g2 by omega) _
                case measure => simp [intOf]; omega
          · rw [Bool.not_eq_true] at hp
            have HPOS := Lib.hid hp
            have hb := not_gt_b (show gtF mo 0 = false by have := hp; unfold posR at this; rwa [HMO.out] at this)
            clear hp
            go_wp2_with fail
            go_roundw
            case rel =>
              refine ⟨i + 1, by go_num, by omega, Lib.hid ?_, Lib.hid ?_, HOA3, HGA, HBA⟩
              · have := stN_skip HPOS.out
                rw [← HV.out, ← HM.out] at this
                rw [this]
                exact HOA1.out
              · rw [stB_skip HPOS.out]
                exact HOA2.out
            case measure => simp [intOf]; omega
    · obtain rfl : i = N2 := by omega
      have HOR := Lib.hid (show OwnR wc.heap.size G wo (.agg #[.int .i64 V, .slice (some ⟨g1, 0, none⟩) N1 k1, .slice (some ⟨g2, 0, none⟩) i k2, .slice (some ⟨g3, 0, none⟩) V k3]) (scR R) by
        refine ⟨_, _, _, by rw [show (scR R).vars = (V : Int) from HR0.out], ⟨?_, fun g hg => by cases hg; exact hh1⟩, ⟨?_, fun g hg => by cases hg; exact hh2⟩, ⟨?_, fun g hg => by cases hg; exact hh3⟩, fun g hg e => by cases hg; cases e; exact n12 rfl, fun g hg e => by cases hg; cases e; exact n13 rfl, fun g hg e => by cases hg; cases e; exact n23 rfl⟩
        · have := HO1.out
          rw [← HNL.out, HN1.out] at this
          show wo.ownsRow _ _ _ _ (stN R R.nums.length).length ((stN R R.nums.length).map F32)
          rw [stN_len, HN1.out]
          exact this
        · have := HO2.out
          rw [HN2.out] at this
          show wo.ownsRow _ _ _ _ (stB R R.bnds.length).length ((stB R R.bnds.length).map F32)
          rw [stB_len, HN2.out]
          exact this
        · have := HO3.out
          rw [HV.out] at this
          show wo.ownsRow _ _ _ _ R.gains.length (R.gains.map F32)
          rw [HV.out]
          exact this)
      have hgl := HG.out.lt
      have q0 := HG.out.cell 0 rfl
      have q1 := HG.out.cell 1 rfl
      have q2 := HG.out.cell 2 rfl
      have q3 := HG.out.cell 3 rfl
      go_wp2_with fail
      refine (checked_any _ (scR R) wo HOR.out.rd).mono ?_
      rintro e w9 ⟨rfl, hb9⟩
      have HB9 := Lib.hid (HB4.out.trans (hb9.mono HB4.out.size))
      have HO9 := Lib.hid (HOR.out.up hb9 (Nat.le_refl _))
      have hs9 := hb9.size
      have hs98 := HB9.out.size
      clear hb9 q0 q1 q2 q3 HO1 HO2 HO3
      have hlc := HLc.out.below HB9.out HLc.out.lt
      have e0 := hlc.cell 0 rfl
      have e1' := hlc.cell 1 rfl
      have e2' := hlc.cell 2 rfl
      have e3 := hlc.cell 3 rfl
      have f0 := hlc.free 0
      have f1 := hlc.free 1
      have f2 := hlc.free 2
      have f3 := hlc.free 3
      clear hlc
      have FIN := Lib.hid (show ∀ Wf, Kept (· = w.heap.size + 1) w9 Wf → Below w.heap.size w Wf from fun Wf hk => (HB.out.trans ((HBw.out.trans (HB9.out.mono hsz)).mono HB.out.size)).trans (hk.toBelow (by have := HB.out.size; omega) (by intro k h1 h2; omega)))
      by_cases hv : validR (scR R) = true
      · have HVV := Lib.hid hv
        rw [hv]
        clear hv
        go_wp2_with fail
        refine bodyPost_ret (v := .tuple #[.agg #[.int .i64 V, .slice (some ⟨g1, 0, none⟩) N1 k1, .slice (some ⟨g2, 0, none⟩) i k2, .slice (some ⟨g3, 0, none⟩) V k3], .bool true]) (by simp [results, Tryz.results25, go_sem, *]) rfl ?_
        have hok : scaleOk R = true := by unfold scaleOk; rw [validR_true HVR.out, HVV.out]; rfl
        suffices hF : ∀ Wf, Kept (· = w.heap.size + 1) w9 Wf → ∃ v', Ending.returned (.tuple #[.agg #[.int .i64 V, .slice (some ⟨g1, 0, none⟩) N1 k1, .slice (some ⟨g2, 0, none⟩) i k2, .slice (some ⟨g3, 0, none⟩) V k3], .bool true]) = .returned (.tuple #[v', .bool OK]) ∧ OwnR w.heap.size Wf.heap.size Wf v' AV ∧ Below w.heap.size w Wf by
          refine hF _ ?_
          repeat' first | with_reducible exact Kept.refl _ _ | refine Kept.setCell ?_ (.inr (by simp)) _
        intro Wf hK
        refine ⟨_, by rw [HOK.out, hok], ?_, FIN.out _ hK⟩
        rw [HAV.out, scaleV, if_pos hok]
        have hz := hK.size
        have hbz := HB.out.size
        exact (HO9.out.kept hK (by intro b h1 h2 h3; omega)).wide (by omega) (by omega)
      · rw [Bool.not_eq_true] at hv
        have HVV := Lib.hid hv
        rw [hv]
        clear hv
        go_wp2_with fail
        refine bodyPost_ret (v := .tuple #[.agg #[.int .i64 0, .slice none 0 0, .slice none 0 0, .slice none 0 0], .bool false]) (by simp [results, Tryz.results25, go_sem, *]) rfl ?_
        have hok : scaleOk R = false := by unfold scaleOk; rw [HVV.out]; simp
        refine ⟨_, by rw [HOK.out, hok], by rw [HAV.out, scaleV, hok]; exact ownR_zero _ _ _, FIN.out _ ?_⟩
        repeat' first | with_reducible exact Kept.refl _ _ | refine Kept.setCell ?_ (.inr (by simp)) _
end Go.Proofs.YtgkbbpajkbkgnaaGreatDoor

namespace Go.Proofs.YtgkbbpajkbkgnaaGreatDoor
open Go.RowKit
end Go.Proofs.YtgkbbpajkbkgnaaGreatDoor

namespace Go.Proofs.YtgkbbpajkbkgnaaGreatDoor
open Go.RowKit
def waysB (xs : List Int) : Bool := areCitiesB xs && decide (citN xs.length ≤ 8)
noncomputable def validDk (d : DeskD) : Bool := validR d.rows && (areSizesB d.sizes && (areJobsB d.jobs && waysB d.ways))
set_option maxHeartbeats 2000000 in
set_option maxRecDepth 4000 in
theorem implVD_any (v : Value) (d : DeskD) (w : World) (h : RdD w v d) :
    Calls Tryz.prog 18 #[v] w fun e w' => e = .returned (.bool (validDk d)) ∧ Below w.heap.size w w' := by
  obtain ⟨a1, c1, a2, c2, a3, c3, a4, c4, a5, c5, a6, c6, rfl⟩ := h.shape
  obtain ⟨p1, p2, p3, p4⟩ := h.parts
  obtain ⟨x1, x2, x3, x4⟩ := d
  simp only at p1 p2 p3 p4 ⊢
  have P1 := Lib.hid p1
  have P2 := Lib.hid p2
  have P3 := Lib.hid p3
  have P4 := Lib.hid p4
  clear h p1 p2 p3 p4
  obtain ⟨q1, h1⟩ : ∃ q, validR x1 = q := ⟨_, rfl⟩
  obtain ⟨q2, h2⟩ : ∃ q, areSizesB x2 = q := ⟨_, rfl⟩
  obtain ⟨q3, h3⟩ : ∃ q, areJobsB x3 = q := ⟨_, rfl⟩
  obtain ⟨q4, h4⟩ : ∃ q, areCitiesB x4 = q := ⟨_, rfl⟩
  have HV := Lib.hid (show validDk ⟨x1, x2, x3, x4⟩ = (q1 && (q2 && (q3 && (q4 && decide (citN x4.length ≤ 8))))) by unfold validDk waysB; rw [h1, h2, h3, h4])
  have H1 := Lib.hid h1
  have H2 := Lib.hid h2
  have H3 := Lib.hid h3
  have H4 := Lib.hid h4
  clear h1 h2 h3 h4
  go_enter Tryz.func18, Tryz.ntmps18
  go_wp2_with fail
  refine Calls.at fun W hW => ?_
  have HB := Lib.hid (show Below w.heap.size w W by subst hW; (repeat' first | exact Below.refl _ _ | assumption | refine Below.alloc ?_ ?_ _ | refine Below.setCell ?_ ?_ _ | refine Below.drew ?_ | (simp; done) | (simp; omega)))
  have HK := Lib.hid (show Blk W w.heap.size 30 #[.int .i64 x1.vars, .slice a1 x1.nums.length c1, .slice a2 x1.bnds.length c2, .slice a3 x1.gains.length c3, .slice a4 x2.length c4, .slice a5 x3.length c5, .slice a6 x4.length c6] by subst hW; exact Blk.new _ _ _)
  clear hW
  refine (ValidRows_any _ x1 W (P1.out.up HB.out (Nat.le_refl _))).mono ?_
  rintro e w1 ⟨rfl, hb⟩
  rw [H1.out]
  have HB1 := Lib.hid (HB.out.trans (hb.mono HB.out.size))
  have HK1 := Lib.hid (HK.out.below hb HK.out.lt)
  clear hb
  cases q1
  · go_wp2_with fail
    go_ret
    exact ⟨by rw [HV.out]; rfl, HB1.out⟩
  have d4 : w1.cell? ⟨w.heap.size, 4, none⟩ = some (.slice a4 x2.length c4) := HK1.out.cell 4 rfl
  have d5 : w1.cell? ⟨w.heap.size, 5, none⟩ = some (.slice a5 x3.length c5) := HK1.out.cell 5 rfl
  go_wp2_with fail
  refine (AreSizes_any _ x2 w1 (P2.out.up HB1.out (Nat.le_refl _))).mono ?_
  rintro e w1' ⟨rfl, rfl⟩
  rw [H2.out]
  cases q2
  · go_wp2_with fail
    go_ret
    exact ⟨by rw [HV.out]; rfl, HB1.out⟩
  go_wp2_with fail
  refine (AreJobs_any _ x3 w1 (P3.out.up HB1.out (Nat.le_refl _))).mono ?_
  rintro e w2 ⟨rfl, hb⟩
  rw [H3.out]
  have HB2 := Lib.hid (HB1.out.trans (hb.mono HB1.out.size))
  have HK2 := Lib.hid (HK1.out.below hb HK1.out.lt)
  clear hb d4 d5
  cases q3
  · go_wp2_with fail
    go_ret
    exact ⟨by rw [HV.out]; rfl, HB2.out⟩
  have d6 : w2.cell? ⟨w.heap.size, 6, none⟩ = some (.slice a6 x4.length c6) := HK2.out.cell 6 rfl
  go_wp2_with fail
  refine (AreCities_any _ x4 w2 (P4.out.up HB2.out (Nat.le_refl _))).mono ?_
  rintro e w3 ⟨rfl, hb⟩
  rw [H4.out]
  have HB3 := Lib.hid (HB2.out.trans (hb.mono HB2.out.size))
  have HK3 := Lib.hid (HK2.out.below hb HK2.out.lt)
  clear hb d6
  cases q4
  · go_wp2_with fail
    go_ret
    exact ⟨by rw [HV.out]; rfl, HB3.out⟩
  have d6 : w3.cell? ⟨w.heap.size, 6, none⟩ = some (.slice a6 x4.length c6) := HK3.out.cell 6 rfl
  go_wp2_with fail
  refine (cities_any _ x4 w3 (P4.out.up HB3.out (Nat.le_refl _))).mono ?_
  rintro e w3' ⟨rfl, rfl⟩
  go_wp2_with fail
  go_ret
  exact ⟨by rw [HV.out]; rfl, HB3.out⟩
end Go.Proofs.YtgkbbpajkbkgnaaGreatDoor

namespace Go.Proofs.YtgkbbpajkbkgnaaGreatDoor
open Go.RowKit Go.Sort
abbrev kwRows : ByteArray := ⟨#[114, 111, 119, 115]⟩
abbrev kwSizes : ByteArray := ⟨#[115, 105, 122, 101, 115]⟩
abbrev kwJobs : ByteArray := ⟨#[106, 111, 98, 115]⟩
abbrev kwWays : ByteArray := ⟨#[119, 97, 121, 115]⟩
abbrev kwSolve : ByteArray := ⟨#[115, 111, 108, 118, 101]⟩
abbrev kwPrices : ByteArray := ⟨#[112, 114, 105, 99, 101, 115]⟩
abbrev kwGain : ByteArray := ⟨#[103, 97, 105, 110]⟩
abbrev kwHalves : ByteArray := ⟨#[104, 97, 108, 118, 101, 115]⟩
abbrev kwTour : ByteArray := ⟨#[116, 111, 117, 114]⟩
abbrev kwLong : ByteArray := ⟨#[108, 111, 110, 103]⟩
abbrev kwBound : ByteArray := ⟨#[98, 111, 117, 110, 100]⟩
abbrev kwDue : ByteArray := ⟨#[100, 117, 101]⟩
abbrev kwSmith : ByteArray := ⟨#[115, 109, 105, 116, 104]⟩
abbrev kwOntime : ByteArray := ⟨#[111, 110, 116, 105, 109, 101]⟩
abbrev kwLate : ByteArray := ⟨#[108, 97, 116, 101]⟩
abbrev kwHeads : ByteArray := ⟨#[104, 101, 97, 100, 115]⟩
abbrev kwScale : ByteArray := ⟨#[115, 99, 97, 108, 101]⟩
abbrev kwDrop : ByteArray := ⟨#[100, 114, 111, 112]⟩
abbrev kwFill : ByteArray := ⟨#[102, 105, 108, 108]⟩
abbrev kwBins : ByteArray := ⟨#[98, 105, 110, 115]⟩
abbrev kwLeast : ByteArray := ⟨#[108, 101, 97, 115, 116]⟩
abbrev kwRaise : ByteArray := ⟨#[114, 97, 105, 115, 101]⟩
abbrev kwList : ByteArray := ⟨#[108, 105, 115, 116]⟩
abbrev kwSpan : ByteArray := ⟨#[115, 112, 97, 110]⟩
abbrev kwOk : ByteArray := ⟨#[111, 107]⟩
abbrev kwNo : ByteArray := ⟨#[110, 111]⟩
abbrev kwWhat : ByteArray := ⟨#[119, 104, 97, 116]⟩
theorem str_neL {s : ByteArray} {a : Array UInt8} {l : List UInt8} (h : s ≠ ⟨a⟩) (hl : a.toList = l) : (s.toList == l) = false := by
  have := str_ne h
  rw [ByteArray.toList_eq ⟨a⟩] at this
  rw [← hl]
  exact this
def nearB : Nat := 897581056
noncomputable def solvS (r : RowsD) : Option TabD := solvO r 64 nearB
noncomputable def planS (r : RowsD) : List Nat := match solvS r with | some t => planT t | none => []
noncomputable def priceS (r : RowsD) : List Nat := match solvS r with | some t => priceT t | none => []
noncomputable def setK (d : DeskD) (s x : ByteArray) : Option (DeskD × Bool) :=
  if s = kwRows then some ({ d with rows := rdrV x }, rdrOk x)
  else if s = kwSizes then some ({ d with sizes := rdV x }, listOk x)
  else if s = kwJobs then some ({ d with jobs := rdjV x }, rdjOk x)
  else if s = kwWays then some ({ d with ways := rdV x }, listOk x)
  else none
noncomputable def countK (d : DeskD) (s : ByteArray) (n : Int) : Option (Int × Bool) :=
  if s = kwFill then some (fillN d.sizes n, fillB d.sizes n)
  else if s = kwBins then some (fbN d.sizes n, fbB d.sizes n)
  else if s = kwLeast then some (binsN d.sizes n, binsB d.sizes n)
  else if s = kwRaise then some (rbN d.ways n, rbB d.ways n)
  else if s = kwList then some (lpE d.jobs n, machB d.jobs n)
  else if s = kwSpan then some (lsN d.jobs n, lsB d.jobs n)
  else none
noncomputable def tellK (d : DeskD) (s : ByteArray) : Option (ByteArray × Bool) :=
  if s = kwRows then some (rowT d.rows, validR d.rows)
  else if s = kwSizes then some (listT d.sizes, true)
  else if s = kwJobs then some (jobT d.jobs, areJobsB d.jobs)
  else if s = kwWays then some (listT d.ways, true)
  else if s = kwSolve then some (numT (planS d.rows), (solvS d.rows).isSome)
  else if s = kwPrices then some (numT (priceS d.rows), (solvS d.rows).isSome)
  else if s = kwGain then some (numT [gainV d.rows (planS d.rows)], (solvS d.rows).isSome && gainOk d.rows (planS d.rows))
  else if s = kwHalves then some (itoaB (halfN d.sizes), areSizesB d.sizes)
  else if s = kwTour then some (listT (idxs (tourLst d.ways)), areCitiesB d.ways)
  else if s = kwLong then some (itoaB (tourLng d.ways), areCitiesB d.ways)
  else if s = kwBound then some (itoaB (tbN d.ways), tbB d.ways)
  else if s = kwDue then some (listT (dueL d.jobs), areJobsB d.jobs)
  else if s = kwSmith then some (listT (smithL d.jobs), areJobsB d.jobs)
  else if s = kwOntime then some (listT (otL d.jobs), areJobsB d.jobs)
  else if s = kwLate then some (itoaB (lateN d.jobs), areJobsB d.jobs)
  else if s = kwHeads then some (itoaB (headsN d.jobs), areJobsB d.jobs)
  else none
noncomputable def twoK (d : DeskD) (s x : ByteArray) : DeskD × ByteArray × Bool × Bool :=
  match setK d s x with
  | some (d', ok) => (d', kwOk, ok, true)
  | none => if s = kwDrop then ({ d with rows := dropV d.rows (valN x) }, kwOk, dropOk d.rows (valN x) && valOk x, true)
    else match countK d s (valN x) with
    | some (n, ok) => (d, itoaB n, ok && valOk x, true)
    | none => (d, itoaB 0, false, false)
noncomputable def carK (d : DeskD) (s : ByteArray) : DeskD × ByteArray × Bool × Bool :=
  if (cutS 32 s).length = 2 then twoK d ((cutS 32 s).getD 0 E0) ((cutS 32 s).getD 1 E0)
  else if 2 < (cutS 32 s).length then (d, E0, false, false)
  else if s = kwScale then ({ d with rows := scaleV d.rows }, kwOk, scaleOk d.rows, true)
  else match tellK d s with
  | some (x, ok) => (d, x, ok, true)
  | none => (d, E0, false, false)
noncomputable def cmdK (d : DeskD) (s : ByteArray) : DeskD × ByteArray :=
  if (carK d s).2.2.2 = false then (d, kwWhat)
  else if (carK d s).2.2.1 = false ∨ validDk (carK d s).1 = false then (d, kwNo)
  else ((carK d s).1, (carK d s).2.1)
def BitsD (d : DeskD) : Prop := BitsR d.rows
theorem set_bits {d : DeskD} (h : BitsD d) {s x : ByteArray} {d' : DeskD} {ok : Bool} (e : setK d s x = some (d', ok)) : BitsD d' := by
  unfold setK at e
  split at e
  · cases e; exact rdr_bits x
  · split at e
    · cases e; exact h
    · split at e
      · cases e; exact h
      · split at e
        · cases e; exact h
        · cases e
theorem two_bits {d : DeskD} (h : BitsD d) (s x : ByteArray) : BitsD (twoK d s x).1 := by
  unfold twoK
  cases e : setK d s x with
  | some p => obtain ⟨d', ok⟩ := p; exact set_bits h e
  | none =>
    dsimp only
    split
    · exact drop_bits h _
    · cases countK d s (valN x) with
      | some p => exact h
      | none => exact h
theorem car_bits {d : DeskD} (h : BitsD d) (s : ByteArray) : BitsD (carK d s).1 := by
  unfold carK
  split
  · exact two_bits h _ _
  · split
    · exact h
    · split
      · exact scale_bits h
      · cases tellK d s with
        | some p => exact h
        | none => exact h
theorem cmd_bits {d : DeskD} (h : BitsD d) (s : ByteArray) : BitsD (cmdK d s).1 := by
  unfold cmdK
  split
  · exact h
  · split
    · exact h
    · exact car_bits h s
theorem cmd_valid {d : DeskD} (h : validDk d = true) (s : ByteArray) : validDk (cmdK d s).1 = true := by
  unfold cmdK
  split
  · exact h
  · split
    · exact h
    · rename_i h2
      rw [not_or] at h2
      simpa using h2.2
end Go.Proofs.YtgkbbpajkbkgnaaGreatDoor
