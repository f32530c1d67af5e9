/-
  FnJournal: texts joined: FlI, RdrI, RdjI.
-/
import Derived.Deep.RegionLaw
import Derived.Test.YtgkbbpajkbkgnaaGreatDoorMFnJournalAG
import Derived.Test.YtgkbbpajkbkgnaaGreatDoorMFnJournalAH
import Derived.Test.YtgkbbpajkbkgnaaGreatDoorMFnJournalAI
import Derived.Test.YtgkbbpajkbkgnaaGreatDoorMFnJournalAY
set_option linter.unusedVariables false
set_option linter.unusedSimpArgs false
namespace Go.Proofs.YtgkbbpajkbkgnaaGreatDoor
open Go.RowKit
theorem areNumB_any (n : Nat) (w : World) : Calls Tryz.prog 117 #[.int .i64 n] w fun e w' => e = .returned (.bool (decide (n ≤ 256))) ∧ w = w' := by
  by_cases h : n ≤ 256
  · rw [decide_eq_true h]
    exact areNumbers_any n w h
  · have hd : decide ((n : Int) ≤ 256) = false := decide_eq_false (by omega)
    rw [decide_eq_false h]
    clear h
    go_enter Tryz.func117, Tryz.ntmps117
    go_wp2_with fail
    go_ret
    exact ⟨rfl, rfl⟩
set_option maxHeartbeats 2000000 in
theorem ReadNumbers_any (s : ByteArray) (w : World) (hs : s.size ≤ 1048576) (hm : HasMax w) :
    Calls Tryz.prog 85 #[.string s] w fun e w' => ∃ a cap, e = .returned (.tuple #[.slice a (fltV s).length cap, .bool (fltOk s)]) ∧ w'.ownsRow w.heap.size 100 1 (.slice a (fltV s).length cap) (fltV s).length ((fltV s).map F32) ∧ Below w.heap.size w w' := by
  have HAN := Lib.hid (fun W n => areNumB_any n W)
  have HDV := Lib.hid (divided_any s w hs hm)
  have hcn := wsOf_cnt s
  have HWA := Lib.hid (fun k h => @wsOf_at s k h)
  have HSZ := Lib.hid hs
  clear hm
  obtain ⟨n, hn⟩ : ∃ n, n = (wsOf s).length := ⟨_, rfl⟩
  rw [← hn] at hcn HDV HWA
  have hnb : n ≤ 2000000 := by omega
  have HN := Lib.hid hn
  clear hn hs hcn
  go_enter Tryz.func85, Tryz.ntmps85
  go_upto_region 2 with fail
  by_cases hlong : 256 < n
  · have hd : decide (n ≤ 256) = false := decide_eq_false (by omega)
    have HNO := Lib.hid (fltOk_long (s := s) (by rw [← HN.out]; exact hlong))
    have HRV := Lib.hid (fltV_no HNO.out)
    have HA2 := Lib.hid (fun W => (hd ▸ HAN.out W n : _))
    clear hlong HWA
    go_wp2_with (first
      | (go_at_call 86; refine HDV.out.mono ?_; rintro e w1 ⟨wa, wc, rfl, hrs, hb1⟩)
      | (go_at_call 117; refine (HA2.out _).mono ?_; rintro e w' ⟨rfl, rfl⟩)
      | fail)
    go_ret2
    refine ⟨none, 0, ?_, ?_, hb1⟩
    · rw [HNO.out, HRV.out]; rfl
    · rw [HRV.out]; exact World.ownsRow_nil _ _ _ _
  have h256 : n ≤ 256 := by omega
  have HA2 := Lib.hid (fun W => areNumbers_any n W h256)
  go_wp2_with (first
    | (go_at_call 86; refine HDV.out.mono ?_; rintro e w1 ⟨wa, wc, rfl, hrs, hb1⟩)
    | (go_at_call 117; refine (HA2.out _).mono ?_; rintro e w' ⟨rfl, rfl⟩)
    | fail)
  have HRS := Lib.hid hrs
  have HB1 := Lib.hid hb1
  clear hrs hb1 HDV HAN HA2
  have hz1 := HB1.out.size
  go_loopw [5, 18] (fun ov iv wr => ∃ (k : Nat) (b : Option Addr) (cc : Nat), iv = .int .i64 k ∧ k ≤ n ∧ ov = .slice b k cc ∧ Hid (wr.ownsRow w1.heap.size 100 1 (.slice b k cc) k ((fltsK s k).map F32)) ∧ Hid (∀ j, j < k → hexOk ((wsOf s).getD j E0) = true) ∧ Hid (Below w1.heap.size w1 wr)) (fun _ iv _ => n + 1 - (intOf iv).toNat)
  case atStart => exact ⟨0, none, 0, rfl, Nat.zero_le _, rfl, Lib.hid (World.ownsRow_nil _ _ _ _), Lib.hid (by intro j hj; omega), Lib.hid (Below.refl _ _)⟩
  case round =>
    obtain ⟨k, b, cc, rfl, hk, rfl, HO, HALL, HB⟩ := hrel
    obtain ⟨wo, rfl⟩ : ∃ wo, wo = wr := ⟨wr, rfl⟩
    have hsz := HB.out.size
    by_cases hlt : k < n
    · have hlt' : (k : Int) < n := by omega
      have hlw : k < (wsOf s).length := by rw [← HN.out]; exact hlt
      obtain ⟨xb, xo, rfl, _, hx⟩ := (HRS.out.up HB.out (Nat.le_refl _)).at hlw
      have hxs := HWA.out k hlt
      have HE := Lib.hid (fltsK_succ s k hlw)
      have HBAD := Lib.hid (fun h => fltOk_bad hlw h)
      have HSTEP := Lib.hid (fun (h : hexOk ((wsOf s).getD k E0) = true) => (show ∀ j, j < k + 1 → hexOk ((wsOf s).getD j E0) = true from fun j hj => by
        by_cases hjk : j = k
        · rw [hjk]; exact h
        · exact HALL.out j (by omega)))
      obtain ⟨x, hxe⟩ : ∃ x, x = (wsOf s).getD k E0 := ⟨_, rfl⟩
      rw [← hxe] at hx hxs HE HBAD HSTEP
      clear hxe
      have HRD := Lib.hid (fromHex_any x wo (Nat.le_trans hxs HSZ.out))
      obtain ⟨z, hz⟩ : ∃ z, z = accH x 8 := ⟨_, rfl⟩
      obtain ⟨q, hq⟩ : ∃ q, q = hexOk x := ⟨_, rfl⟩
      rw [← hz] at HRD HE
      rw [← hq] at HRD HBAD HSTEP
      clear hz hq hxs
      cases q
      · have HNO := Lib.hid (HBAD.out rfl)
        have HRV := Lib.hid (fltV_no HNO.out)
        go_wp2_with (first
          | (go_at_call 142; refine HRD.out.mono ?_; rintro e w2 ⟨y, rfl, _, rfl⟩)
          | fail)
        go_ret2
        refine ⟨none, 0, ?_, ?_, HB1.out.trans (HB.out.mono hz1)⟩
        · rw [HNO.out, HRV.out]; rfl
        · rw [HRV.out]; exact World.ownsRow_nil _ _ _ _
      · have HALL2 := Lib.hid (HSTEP.out rfl)
        go_wp2_with (first
          | (go_at_call 142; refine HRD.out.mono ?_; rintro e w2 ⟨y, rfl, hy, rfl⟩; obtain rfl := hy rfl)
          | (at_builtin; refine app_flts rfl _ _ rfl w1.heap.size (.slice b k cc) k (fltsK s k) rfl (HO.out.alloc _) _ [y] rfl (slcF_oneB wo y _ rfl) (k + 1) (fltsK s (k + 1)) (by simp) HE.out (by omega) (by simp; omega) ?_; intro b3 c3 w3 hown3 hbl3 _ _)
          | fail)
        go_roundw
        case rel => exact ⟨k + 1, b3, c3, by go_num, by omega, rfl, Lib.hid hown3, HALL2, Lib.hid (HB.out.trans (((Below.refl _ _).alloc hsz _).trans hbl3))⟩
        case measure => simp [intOf]; omega
    · obtain rfl : k = n := by omega
      have HOK := Lib.hid (fltOk_all (s := s) (by rw [← HN.out]; exact HALL.out) (by rw [← HN.out]; exact h256))
      have HVK := Lib.hid (show fltsK s k = (wsOf s).map (fun x => accH x 8) by rw [HN.out]; exact fltsK_all s)
      have HRV := Lib.hid (fltV_ok HOK.out)
      have HRL := Lib.hid (show (fltV s).length = k by rw [HRV.out, List.length_map]; exact HN.out.symm)
      go_wp2_with fail
      go_ret2
      refine ⟨b, cc, ?_, ?_, HB1.out.trans (HB.out.mono hz1)⟩
      · rw [HOK.out, HRL.out]; rfl
      · rw [HRL.out, HRV.out, ← HVK.out]; exact owns_base HO.out hz1
end Go.Proofs.YtgkbbpajkbkgnaaGreatDoor

namespace Go.Proofs.YtgkbbpajkbkgnaaGreatDoor
open Go.RowKit
set_option maxHeartbeats 4000000 in
set_option maxRecDepth 4000 in
theorem readRowsI_any (s : ByteArray) (w : World) (hp : HasPow w) (hm : HasMax w) (he : HasErrs w) (hs : s.size ≤ 1048576) :
    Calls Tryz.prog 30 #[.string s] w fun e w' => ∃ v', e = .returned (.tuple #[v', .bool (rdrOk s)]) ∧ OwnR w.heap.size w'.heap.size w' v' (rdrV s) ∧ Below w.heap.size w w' := by
  have HPW := Lib.hid hp
  have HMX := Lib.hid hm
  have HER := Lib.hid he
  clear hp hm he
  have HSZ := Lib.hid hs
  have HSP := Lib.hid (fun W (hW : HasMax W) => SplitC_any 59 s W hW hs)
  have HSH := Lib.hid (@rdr_short s)
  have HFO := Lib.hid (@rdr_four s)
  have HVN := Lib.hid (@rdrV_no s)
  have HVY := Lib.hid (@rdrV_yes s)
  have HLE := Lib.hid (cutS_le 59 s)
  clear hs
  obtain ⟨ps, hps⟩ : ∃ ps, ps = cutS 59 s := ⟨_, rfl⟩
  rw [← hps] at HSP HSH HFO HVY HLE
  obtain ⟨R, hR⟩ : ∃ R, R = rdrV s := ⟨_, rfl⟩
  rw [← hR] at HVN HVY ⊢
  obtain ⟨q, hq⟩ : ∃ q, q = rdrOk s := ⟨_, rfl⟩
  rw [← hq] at HSH HFO HVN HVY ⊢
  have HQ0 := Lib.hid hq
  clear hps hR hq
  go_enter Tryz.func30, Tryz.ntmps30
  go_upto_region 1 with fail
  refine wp_at fun W hW => ?_
  have HB := Lib.hid (show Below w.heap.size w W by subst hW; exact (Below.refl _ _).alloc (Nat.le_refl _) _)
  have HL := Lib.hid (show Blk W w.heap.size 26 #[.int .i64 0, .slice none 0 0, .slice none 0 0, .slice none 0 0] by subst hW; exact Blk.new _ _ _)
  clear hW
  have hlW := HL.out.lt
  have hzW := HB.out.size
  go_upto_region 2 with (go_at_call 83; refine (HSP.out _ (HMX.out.up HB.out (Nat.le_refl _))).mono ?_; rintro e w1 ⟨wa, wc, rfl, hrs, hb1⟩)
  have HB1 := Lib.hid (HB.out.trans (hb1.mono hzW))
  have HL1 := Lib.hid (HL.out.below hb1 hlW)
  have HRS := Lib.hid hrs
  have hz1 := Nat.le_trans hzW hb1.size
  have hlt1 : w.heap.size < w1.heap.size := HL1.out.lt
  clear hb1 hrs HSP HB HL hlW
  by_cases h4 : ps.length = 4
  case neg =>
    have hd : ((ps.length : Int) != 4) = true := by simp; omega
    have HNO := Lib.hid (HSH.out h4)
    have HRV := Lib.hid (HVN.out HNO.out)
    have e0 : w1.cell? ⟨w.heap.size, 0, none⟩ = some (.int .i64 0) := HL1.out.cell 0 rfl
    have e1 : w1.cell? ⟨w.heap.size, 1, none⟩ = some (.slice none 0 0) := HL1.out.cell 1 rfl
    have e2 : w1.cell? ⟨w.heap.size, 2, none⟩ = some (.slice none 0 0) := HL1.out.cell 2 rfl
    have e3 : w1.cell? ⟨w.heap.size, 3, none⟩ = some (.slice none 0 0) := HL1.out.cell 3 rfl
    have f0 := HL1.out.free 0
    have f1 := HL1.out.free 1
    have f2 := HL1.out.free 2
    have f3 := HL1.out.free 3
    have FIN := Lib.hid (show ∀ Wf, Kept (· = w.heap.size) w1 Wf → Below w.heap.size w Wf from fun Wf hk => HB1.out.trans (hk.toBelow HB1.out.size (by intro k h1 h2; omega)))
    clear h4
    go_wp2_with fail
    refine bodyPost_ret (v := .tuple #[.agg #[.int .i64 0, .slice none 0 0, .slice none 0 0, .slice none 0 0], .bool false]) (by simp [results, Tryz.results30, go_sem, *]) rfl ⟨.agg #[.int .i64 0, .slice none 0 0, .slice none 0 0, .slice none 0 0], by rw [HNO.out], by rw [HRV.out]; exact ownR_zero _ _ _, FIN.out _ ?_⟩
    repeat' first | exact Kept.refl _ _ | refine Kept.setCell ?_ (.inr (by simp)) _
  have hd : ((ps.length : Int) != 4) = false := by simp; omega
  have HQ := Lib.hid (HFO.out h4)
  have HVQ := Lib.hid (HVY.out)
  obtain ⟨xb, xo, rfl, _, hx0⟩ := HRS.out.at (i := 0) (by omega)
  obtain ⟨xb1, xo1, ee1, _, hx1⟩ := HRS.out.at (i := 1) (by omega)
  simp only [Option.some.injEq, Addr.mk.injEq, and_true] at ee1
  obtain ⟨rfl, rfl⟩ := ee1
  obtain ⟨xb2, xo2, ee2, _, hx2⟩ := HRS.out.at (i := 2) (by omega)
  simp only [Option.some.injEq, Addr.mk.injEq, and_true] at ee2
  obtain ⟨rfl, rfl⟩ := ee2
  obtain ⟨xb3, xo3, ee3, _, hx3⟩ := HRS.out.at (i := 3) (by omega)
  simp only [Option.some.injEq, Addr.mk.injEq, and_true] at ee3
  obtain ⟨rfl, rfl⟩ := ee3
  have hsz := fun i (hi : i < ps.length) => Nat.le_trans (HLE.out _ (getD_mem hi)) HSZ.out
  have hs0 := hsz 0 (by omega)
  have hs1 := hsz 1 (by omega)
  have hs2 := hsz 2 (by omega)
  have hs3 := hsz 3 (by omega)
  have hn4 : ps.length = 4 := h4
  obtain ⟨p0, hp0⟩ : ∃ p, p = ps.getD 0 E0 := ⟨_, rfl⟩
  rw [← hp0] at hx0 hs0 HQ HVQ
  obtain ⟨p1, hp1⟩ : ∃ p, p = ps.getD 1 E0 := ⟨_, rfl⟩
  rw [← hp1] at hx1 hs1 HQ HVQ
  obtain ⟨p2, hp2⟩ : ∃ p, p = ps.getD 2 E0 := ⟨_, rfl⟩
  rw [← hp2] at hx2 hs2 HQ HVQ
  obtain ⟨p3, hp3⟩ : ∃ p, p = ps.getD 3 E0 := ⟨_, rfl⟩
  rw [← hp3] at hx3 hs3 HQ HVQ
  rw [Nat.add_zero] at hx0
  obtain ⟨n4, hn4e⟩ : ∃ n4, n4 = ps.length := ⟨_, rfl⟩
  rw [← hn4e] at hd hn4 ⊢
  clear hp0 hp1 hp2 hp3 hsz HSH HFO HVY HRS HLE h4 hn4e
  subst hn4
  clear hd
  have HD0 := Lib.hid (ReadDecimal_any p0 w1 hs0 (HPW.out.up HB1.out (Nat.le_refl _)) (HER.out.up HB1.out (Nat.le_refl _)))
  go_upto_region 5 with (go_at_call 84; refine HD0.out.mono ?_; rintro e w2 ⟨rfl, hb⟩)
  have HB2 := Lib.hid (HB1.out.trans (hb.mono hz1))
  have HL2 := Lib.hid (HL1.out.below hb HL1.out.lt)
  replace hx1 := held_of hb hx1 (Nat.le_refl _)
  replace hx2 := held_of hb hx2 (Nat.le_refl _)
  replace hx3 := held_of hb hx3 (Nat.le_refl _)
  have hz2 := Nat.le_trans hz1 hb.size
  have hlt2 : w.heap.size < w2.heap.size := HL2.out.lt
  clear hb HD0 hx0 HB1 HL1
  have HN1 := Lib.hid (ReadNumbers_any p1 w2 hs1 (HMX.out.up HB2.out (Nat.le_refl _)))
  go_upto_region 6 with (go_at_call 85; refine HN1.out.mono ?_; rintro e w3 ⟨sa1, sc1, rfl, ho1, hb1⟩)
  have HB3 := Lib.hid (HB2.out.trans (hb1.mono hz2))
  have HL3 := Lib.hid (HL2.out.below hb1 HL2.out.lt)
  replace hx2 := held_of hb1 hx2 (Nat.le_refl _)
  replace hx3 := held_of hb1 hx3 (Nat.le_refl _)
  have hz3 := Nat.le_trans hz2 hb1.size
  have HBB1 := Lib.hid hb1
  have HOO1 := Lib.hid ho1
  clear hb1 ho1 HN1 hx1 HB2 HL2
  have HN2 := Lib.hid (ReadNumbers_any p2 w3 hs2 (HMX.out.up HB3.out (Nat.le_refl _)))
  go_upto_region 7 with (go_at_call 85; refine HN2.out.mono ?_; rintro e w4 ⟨sa2, sc2, rfl, ho2, hb2⟩)
  have HB4 := Lib.hid (HB3.out.trans (hb2.mono hz3))
  have HL4 := Lib.hid (HL3.out.below hb2 HL3.out.lt)
  replace hx3 := held_of hb2 hx3 (Nat.le_refl _)
  have hz4 := Nat.le_trans hz3 hb2.size
  have HBB2 := Lib.hid hb2
  have HOO2 := Lib.hid ho2
  clear hb2 ho2 HN2 hx2 HB3 HL3
  have HN3 := Lib.hid (ReadNumbers_any p3 w4 hs3 (HMX.out.up HB4.out (Nat.le_refl _)))
  go_upto_region 8 with (go_at_call 85; refine HN3.out.mono ?_; rintro e w5 ⟨sa3, sc3, rfl, ho3, hb3⟩)
  have HB5 := Lib.hid (HB4.out.trans (hb3.mono hz4))
  have HL5 := Lib.hid (HL4.out.below hb3 HL4.out.lt)
  have hz5 := Nat.le_trans hz4 hb3.size
  have HBB3 := Lib.hid hb3
  have HOO3 := Lib.hid ho3
  clear hb3 ho3 HN3 hx3 HB4 HL4
  have HOW := Lib.hid (ownR_mk (z := valN p0) HOO1.out hlt2 HOO2.out (Nat.le_refl _) HOO3.out (Nat.le_refl _) HBB2.out HBB3.out HBB1.out.size)
  clear HOO1 HOO2 HOO3 HBB1 HBB2 HBB3 hs0 hs1 hs2 hs3
  have e0 : w5.cell? ⟨w.heap.size, 0, none⟩ = some (.int .i64 0) := HL5.out.cell 0 rfl
  have e1 : w5.cell? ⟨w.heap.size, 1, none⟩ = some (.slice none 0 0) := HL5.out.cell 1 rfl
  have e2 : w5.cell? ⟨w.heap.size, 2, none⟩ = some (.slice none 0 0) := HL5.out.cell 2 rfl
  have e3 : w5.cell? ⟨w.heap.size, 3, none⟩ = some (.slice none 0 0) := HL5.out.cell 3 rfl
  have f0 := HL5.out.free 0
  have f1 := HL5.out.free 1
  have f2 := HL5.out.free 2
  have f3 := HL5.out.free 3
  have hlt5 : w.heap.size < w5.heap.size := HL5.out.lt
  have FIN := Lib.hid (show ∀ Wf, Kept (· = w.heap.size) w5 Wf → Below w.heap.size w Wf from fun Wf hk => HB5.out.trans (hk.toBelow HB5.out.size (by intro k h1 h2; omega)))
  have HRW := Lib.hid (show rowsW p0 p1 p2 p3 = ⟨valN p0, fltV p1, fltV p2, fltV p3⟩ from rfl)
  have HRB := Lib.hid (show rowsB p0 p1 p2 p3 = (valOk p0 && (fltOk p1 && (fltOk p2 && (fltOk p3 && validR (rowsW p0 p1 p2 p3))))) from rfl)
  rw [HRB.out] at HQ
  obtain ⟨RR, hRR⟩ : ∃ RR, RR = rowsW p0 p1 p2 p3 := ⟨_, rfl⟩
  have HRR := Lib.hid (hRR.trans HRW.out)
  rw [← hRR] at HQ HVQ
  have HRDR := Lib.hid (show RdR w5 (.agg #[.int .i64 (valN p0), .slice sa1 (fltV p1).length sc1, .slice sa2 (fltV p2).length sc2, .slice sa3 (fltV p3).length sc3]) RR by rw [HRR.out]; exact HOW.out.rd)
  rw [← HRR.out] at HOW
  have HCH := Lib.hid (checked_any _ RR w5 HRDR.out)
  clear hRR HRW HRR HRB HRDR
  obtain ⟨z0, hz0⟩ : ∃ z, z = valN p0 := ⟨_, rfl⟩
  obtain ⟨y1, hy1⟩ : ∃ y, y = (fltV p1).length := ⟨_, rfl⟩
  obtain ⟨y2, hy2⟩ : ∃ y, y = (fltV p2).length := ⟨_, rfl⟩
  obtain ⟨y3, hy3⟩ : ∃ y, y = (fltV p3).length := ⟨_, rfl⟩
  rw [← hz0, ← hy1, ← hy2, ← hy3] at HOW HCH
  rw [← hz0, ← hy1, ← hy2, ← hy3]
  obtain ⟨q0, hq0⟩ : ∃ z, z = valOk p0 := ⟨_, rfl⟩
  obtain ⟨q1, hq1⟩ : ∃ z, z = fltOk p1 := ⟨_, rfl⟩
  obtain ⟨q2, hq2⟩ : ∃ z, z = fltOk p2 := ⟨_, rfl⟩
  obtain ⟨q3, hq3⟩ : ∃ z, z = fltOk p3 := ⟨_, rfl⟩
  rw [← hq0, ← hq1, ← hq2, ← hq3] at HQ
  rw [← hq0, ← hq1, ← hq2, ← hq3]
  clear hz0 hy1 hy2 hy3 hq0 hq1 hq2 hq3
  cases q0
  · have HNO := Lib.hid (show q = false by rw [HQ.out]; rfl)
    have HRV := Lib.hid (HVN.out HNO.out)
    clear HCH HOW
    go_wp2_with fail
    refine bodyPost_ret (v := .tuple #[.agg #[.int .i64 0, .slice none 0 0, .slice none 0 0, .slice none 0 0], .bool false]) (by simp [results, Tryz.results30, go_sem, *]) rfl ⟨.agg #[.int .i64 0, .slice none 0 0, .slice none 0 0, .slice none 0 0], by rw [HNO.out], by rw [HRV.out]; exact ownR_zero _ _ _, FIN.out _ ?_⟩
    repeat' first | exact Kept.refl _ _ | refine Kept.setCell ?_ (.inr (by simp)) _
  cases q1
  · have HNO := Lib.hid (show q = false by rw [HQ.out]; rfl)
    have HRV := Lib.hid (HVN.out HNO.out)
    clear HCH HOW
    go_wp2_with fail
    refine bodyPost_ret (v := .tuple #[.agg #[.int .i64 0, .slice none 0 0, .slice none 0 0, .slice none 0 0], .bool false]) (by simp [results, Tryz.results30, go_sem, *]) rfl ⟨.agg #[.int .i64 0, .slice none 0 0, .slice none 0 0, .slice none 0 0], by rw [HNO.out], by rw [HRV.out]; exact ownR_zero _ _ _, FIN.out _ ?_⟩
    repeat' first | exact Kept.refl _ _ | refine Kept.setCell ?_ (.inr (by simp)) _
  cases q2
  · have HNO := Lib.hid (show q = false by rw [HQ.out]; rfl)
    have HRV := Lib.hid (HVN.out HNO.out)
    clear HCH HOW
    go_wp2_with fail
    refine bodyPost_ret (v := .tuple #[.agg #[.int .i64 0, .slice none 0 0, .slice none 0 0, .slice none 0 0], .bool false]) (by simp [results, Tryz.results30, go_sem, *]) rfl ⟨.agg #[.int .i64 0, .slice none 0 0, .slice none 0 0, .slice none 0 0], by rw [HNO.out], by rw [HRV.out]; exact ownR_zero _ _ _, FIN.out _ ?_⟩
    repeat' first | exact Kept.refl _ _ | refine Kept.setCell ?_ (.inr (by simp)) _
  cases q3
  · have HNO := Lib.hid (show q = false by rw [HQ.out]; rfl)
    have HRV := Lib.hid (HVN.out HNO.out)
    clear HCH HOW
    go_wp2_with fail
    refine bodyPost_ret (v := .tuple #[.agg #[.int .i64 0, .slice none 0 0, .slice none 0 0, .slice none 0 0], .bool false]) (by simp [results, Tryz.results30, go_sem, *]) rfl ⟨.agg #[.int .i64 0, .slice none 0 0, .slice none 0 0, .slice none 0 0], by rw [HNO.out], by rw [HRV.out]; exact ownR_zero _ _ _, FIN.out _ ?_⟩
    repeat' first | exact Kept.refl _ _ | refine Kept.setCell ?_ (.inr (by simp)) _
  obtain ⟨qv, hqv⟩ : ∃ z, z = validR RR := ⟨_, rfl⟩
  rw [← hqv] at HCH HQ
  clear hqv
  cases qv
  · have HNO := Lib.hid (show q = false by rw [HQ.out]; rfl)
    have HRV := Lib.hid (HVN.out HNO.out)
    have HC2 := Lib.hid (show Calls Tryz.prog 77 #[.agg #[.int .i64 z0, .slice sa1 y1 sc1, .slice sa2 y2 sc2, .slice sa3 y3 sc3]] w5 fun e w' => e = .returned (.tuple #[.agg #[.int .i64 0, .slice none 0 0, .slice none 0 0, .slice none 0 0], .bool false]) ∧ Below w5.heap.size w5 w' from HCH.out)
    clear HCH HOW
    go_wp2_with (first
      | (go_at_call 77; refine HC2.out.mono ?_; rintro e w6 ⟨rfl, hb6⟩; replace e0 := held_of hb6 e0 (Nat.le_refl _); replace e1 := held_of hb6 e1 (Nat.le_refl _); replace e2 := held_of hb6 e2 (Nat.le_refl _); replace e3 := held_of hb6 e3 (Nat.le_refl _); have HL6 := Lib.hid (HL5.out.below hb6 HL5.out.lt); replace f0 := HL6.out.free 0; replace f1 := HL6.out.free 1; replace f2 := HL6.out.free 2; replace f3 := HL6.out.free 3; have HB6 := Lib.hid (HB5.out.trans (hb6.mono HB5.out.size)); have FIN6 := Lib.hid (show ∀ Wf, Kept (· = w.heap.size) w6 Wf → Below w.heap.size w Wf from fun Wf hk => HB6.out.trans (hk.toBelow HB6.out.size (by intro k h1 h2; omega))); clear hb6)
      | fail)
    refine bodyPost_ret (v := .tuple #[.agg #[.int .i64 0, .slice none 0 0, .slice none 0 0, .slice none 0 0], .bool false]) (by simp [results, Tryz.results30, go_sem, *]) rfl ⟨.agg #[.int .i64 0, .slice none 0 0, .slice none 0 0, .slice none 0 0], by rw [HNO.out], by rw [HRV.out]; exact ownR_zero _ _ _, FIN6.out _ ?_⟩
    repeat' first | exact Kept.refl _ _ | refine Kept.setCell ?_ (.inr (by simp)) _
  · have HYES := Lib.hid (show q = true by rw [HQ.out]; rfl)
    have HRV := Lib.hid (HVQ.out HYES.out)
    have HC2 := Lib.hid (show Calls Tryz.prog 77 #[.agg #[.int .i64 z0, .slice sa1 y1 sc1, .slice sa2 y2 sc2, .slice sa3 y3 sc3]] w5 fun e w' => e = .returned (.tuple #[.agg #[.int .i64 z0, .slice sa1 y1 sc1, .slice sa2 y2 sc2, .slice sa3 y3 sc3], .bool true]) ∧ Below w5.heap.size w5 w' from HCH.out)
    clear HCH
    go_wp2_with (first
      | (go_at_call 77; refine HC2.out.mono ?_; rintro e w6 ⟨rfl, hb6⟩; replace e0 := held_of hb6 e0 (Nat.le_refl _); replace e1 := held_of hb6 e1 (Nat.le_refl _); replace e2 := held_of hb6 e2 (Nat.le_refl _); replace e3 := held_of hb6 e3 (Nat.le_refl _); have HL6 := Lib.hid (HL5.out.below hb6 HL5.out.lt); replace f0 := HL6.out.free 0; replace f1 := HL6.out.free 1; replace f2 := HL6.out.free 2; replace f3 := HL6.out.free 3; have HB6 := Lib.hid (HB5.out.trans (hb6.mono HB5.out.size)); have HO6 := Lib.hid ((HOW.out.up hb6 (Nat.le_refl _)).wide (Nat.le_refl _) hb6.size); have FIN6 := Lib.hid (show ∀ Wf, Kept (· = w.heap.size) w6 Wf → OwnR w.heap.size Wf.heap.size Wf (.agg #[.int .i64 z0, .slice sa1 y1 sc1, .slice sa2 y2 sc2, .slice sa3 y3 sc3]) RR ∧ Below w.heap.size w Wf from fun Wf hk => ⟨(HO6.out.kept hk (by intro b h1 h2 h3; omega)).wide (Nat.le_succ _) hk.size, HB6.out.trans (hk.toBelow HB6.out.size (by intro k h1 h2; omega))⟩); clear hb6)
      | fail)
    refine bodyPost_ret (v := .tuple #[.agg #[.int .i64 z0, .slice sa1 y1 sc1, .slice sa2 y2 sc2, .slice sa3 y3 sc3], .bool true]) (by simp [results, Tryz.results30, go_sem, *]) rfl ⟨.agg #[.int .i64 z0, .slice sa1 y1 sc1, .slice sa2 y2 sc2, .slice sa3 y3 sc3], by rw [HYES.out], ?_⟩
    rw [HRV.out]
    refine FIN6.out _ ?_
    repeat' first | exact Kept.refl _ _ | refine Kept.setCell ?_ (.inr (by simp)) _
end Go.Proofs.YtgkbbpajkbkgnaaGreatDoor

namespace Go.Proofs.YtgkbbpajkbkgnaaGreatDoor
open Go.RowKit
set_option maxHeartbeats 4000000 in
set_option maxRecDepth 4000 in
theorem readJobsI_any (s : ByteArray) (w : World) (hp : HasPow w) (hm : HasMax w) (he : HasErrs w) (hs : s.size ≤ 1048576) :
    Calls Tryz.prog 32 #[.string s] w fun e w' => ∃ v', e = .returned (.tuple #[v', .bool (rdjOk s)]) ∧ OwnJ w.heap.size w'.heap.size w' v' (rdjV s) ∧ Below w.heap.size w w' := by
  have HRL := Lib.hid (ReadList_any s w hs hp hm he)
  clear hp hm he hs
  cases hok : listOk s
  · have HNO := Lib.hid (rdj_bad hok)
    have HRV := Lib.hid (rdjV_no HNO.out)
    rw [hok] at HRL
    clear hok
    go_enter Tryz.func32, Tryz.ntmps32
    go_wp2_with (go_at_call 31; refine HRL.out.mono ?_; rintro e w1 ⟨a, cap, rfl, ho, hb⟩)
    go_ret2
    refine ⟨.slice none 0 0, by rw [HNO.out]; rfl, ?_, hb⟩
    rw [HRV.out]
    exact ⟨ownJ_nil _ _, by intro g hg; cases hg⟩
  rw [hok] at HRL
  have hlen := @rdV_len s
  have HOK := Lib.hid hok
  have HODD := Lib.hid (@rdj_odd s)
  have HEQ := Lib.hid (fun h4 => rdj_eq hok h4)
  have HYES := Lib.hid (@rdjV_yes s)
  have HNOV := Lib.hid (@rdjV_no s)
  obtain ⟨xs, hxs⟩ : ∃ xs, xs = rdV s := ⟨_, rfl⟩
  rw [← hxs] at HRL hlen HODD HEQ HYES
  obtain ⟨R, hR⟩ : ∃ R, R = rdjV s := ⟨_, rfl⟩
  rw [← hR] at HYES HNOV ⊢
  obtain ⟨q, hq⟩ : ∃ q, q = rdjOk s := ⟨_, rfl⟩
  rw [← hq] at HODD HEQ HYES HNOV ⊢
  clear hok hxs hR hq HOK
  by_cases h4 : xs.length % 4 = 0
  case neg =>
    have hq := HODD.out h4
    subst hq
    have HRV := Lib.hid (HNOV.out rfl)
    have hm4 : ((xs.length : Int) % 4 != 0) = true := by simp; omega
    clear h4 HODD HEQ HYES HNOV
    go_enter Tryz.func32, Tryz.ntmps32
    go_wp2_with (go_at_call 31; refine HRL.out.mono ?_; rintro e w1 ⟨a, cap, rfl, ho, hb⟩)
    go_ret2
    refine ⟨.slice none 0 0, rfl, ?_, hb⟩
    rw [HRV.out]
    exact ⟨ownJ_nil _ _, by intro g hg; cases hg⟩
  have HE := Lib.hid (HEQ.out h4)
  obtain ⟨n, hn⟩ : ∃ n, n = xs.length / 4 := ⟨_, rfl⟩
  rw [← hn] at HE HYES
  have hlen4 : xs.length = 4 * n := by omega
  have hm4 : ((xs.length : Int) % 4 != 0) = false := by simp; omega
  clear HODD HEQ hn h4
  have HLX := Lib.hid hlen4
  clear hlen4
  go_enter Tryz.func32, Tryz.ntmps32
  go_upto_region 4 with (go_at_call 31; refine HRL.out.mono ?_; rintro e w1 ⟨a, cap, rfl, ho, hb⟩)
  have HR := Lib.hid (show RdI w1 (.slice a xs.length cap) xs from slc_of_owns ho)
  have HB1 := Lib.hid hb
  have hz1 := hb.size
  clear ho hb HRL hm4
  go_wp2_with fail
  go_loopw [6, 7] (fun ov iv wr => ∃ (k i : Nat) (b : Option Addr) (cc : Nat), iv = .int .i64 i ∧ i ≤ xs.length ∧ Hid (i = 4 * k) ∧ k ≤ n ∧ ov = .slice b k cc ∧ Hid (wr.ownsRow w1.heap.size 86 4 (.slice b k cc) k (jobsC (jobsK xs k))) ∧ Hid (Below w1.heap.size w1 wr)) (fun _ iv _ => xs.length + 1 - (intOf iv).toNat)
  case atStart => exact ⟨0, 0, none, 0, rfl, Nat.zero_le _, Lib.hid rfl, Nat.zero_le _, rfl, Lib.hid (ownJ_nil _ _), Lib.hid (Below.refl _ _)⟩
  case round =>
    obtain ⟨k, i, b, cc, rfl, hi, HI, hk, rfl, HO, HB⟩ := hrel
    obtain ⟨wo, rfl⟩ : ∃ wo, wo = wr := ⟨wr, rfl⟩
    have hsz := HB.out.size
    by_cases hlt : i < xs.length
    · have hlt' : (i : Int) < xs.length := by omega
      have h1 : i + 1 < xs.length := by have := HI.out; have := HLX.out; omega
      have h2 : i + 2 < xs.length := by have := HI.out; have := HLX.out; omega
      have h3 : i + 3 < xs.length := by have := HI.out; have := HLX.out; omega
      have hk1 : k + 1 ≤ n := by have := HI.out; have := HLX.out; omega
      have HRW := HR.out.up HB.out (Nat.le_refl _)
      obtain ⟨xb, xo, rfl, hxb, d0⟩ := HRW.at hlt
      obtain ⟨xb1, xo1, e1, _, d1⟩ := HRW.at h1
      obtain ⟨xb2, xo2, e2, _, d2⟩ := HRW.at h2
      obtain ⟨xb3, xo3, e3, _, d3⟩ := HRW.at h3
      simp only [Option.some.injEq, Addr.mk.injEq, and_true] at e1 e2 e3
      obtain ⟨rfl, rfl⟩ := e1
      obtain ⟨rfl, rfl⟩ := e2
      obtain ⟨rfl, rfl⟩ := e3
      have HJ := Lib.hid (show jobsK xs (k + 1) = jobsK xs k ++ [⟨xs.getD i 0, xs.getD (i + 1) 0, xs.getD (i + 2) 0, xs.getD (i + 3) 0⟩] by rw [jobsK_succ, HI.out]; rfl)
      obtain ⟨j0, hj0⟩ : ∃ j, j = xs.getD i 0 := ⟨_, rfl⟩
      obtain ⟨j1, hj1⟩ : ∃ j, j = xs.getD (i + 1) 0 := ⟨_, rfl⟩
      obtain ⟨j2, hj2⟩ : ∃ j, j = xs.getD (i + 2) 0 := ⟨_, rfl⟩
      obtain ⟨j3, hj3⟩ : ∃ j, j = xs.getD (i + 3) 0 := ⟨_, rfl⟩
      rw [← hj0] at d0 HJ
      rw [← hj1] at d1 HJ
      rw [← hj2] at d2 HJ
      rw [← hj3] at d3 HJ
      obtain ⟨i1, hi1⟩ : ∃ i1, i1 = i + 1 := ⟨_, rfl⟩
      obtain ⟨i2, hi2⟩ : ∃ i2, i2 = i + 2 := ⟨_, rfl⟩
      obtain ⟨i3, hi3⟩ : ∃ i3, i3 = i + 3 := ⟨_, rfl⟩
      have hw1 : IntKind.i64.wrap ((i : Int) + 1) = (i1 : Int) := by rw [show ((i : Int) + 1) = (i1 : Int) by omega]; exact IntWalk.i64_in _ (by omega)
      have hw2 : IntKind.i64.wrap ((i : Int) + 2) = (i2 : Int) := by rw [show ((i : Int) + 2) = (i2 : Int) by omega]; exact IntWalk.i64_in _ (by omega)
      have hw3 : IntKind.i64.wrap ((i : Int) + 3) = (i3 : Int) := by rw [show ((i : Int) + 3) = (i3 : Int) by omega]; exact IntWalk.i64_in _ (by omega)
      have l1 : (i1 : Int) < xs.length := by omega
      have l2 : (i2 : Int) < xs.length := by omega
      have l3 : (i3 : Int) < xs.length := by omega
      rw [← hi1] at d1
      rw [← hi2] at d2
      rw [← hi3] at d3
      clear HRW hj0 hj1 hj2 hj3 h1 h2 h3 hi1 hi2 hi3
      have hn16 : k ≤ 16 := by have := HI.out; omega
      have hk1b : k + 1 ≤ 17 := by omega
      have HLW := Lib.hid (show Below w1.heap.size wo ((wo.alloc (.cells #[.int .i64 j0, .int .i64 j1, .int .i64 j2, .int .i64 j3] 86)).drew) from ((Below.refl _ _).alloc hsz _).drew)
      go_wp2_with fail
      go_region_law (refine step_app_job rfl (.tmp 27) (.tmp 48) rfl w1.heap.size (.slice b k cc) k (jobsK xs k) (by simp [Act.eval, Act.put]) (ownsK_below HO.out (((Below.refl _ _).alloc (Nat.le_refl _) _).drew) (Nat.le_refl _)) ⟨j0, j1, j2, j3⟩ wo.heap.size (Blk.new wo 86 #[.int .i64 j0, .int .i64 j1, .int .i64 j2, .int .i64 j3]) (by simp [Act.eval, Act.put]) (k + 1) (jobsK xs (k + 1)) rfl HJ.out (by omega) (by simp; omega) ?_; intro b3 c3 w3 hown3 hbl3)
      all_goals
        go_wp2_with fail
        go_roundw
        case rel => exact ⟨k + 1, i + 4, b3, c3, by go_num, by have := HI.out; have := HLX.out; omega, Lib.hid (by have := HI.out; omega), hk1, rfl, Lib.hid hown3, Lib.hid (HB.out.trans (HLW.out.trans hbl3))⟩
        case measure => simp [intOf]; omega
    · obtain rfl : i = xs.length := by omega
      obtain rfl : k = n := by have := HI.out; have := HLX.out; omega
      have HOW : Hid (OwnJ w1.heap.size wo.heap.size wo (.slice b k cc) (jobsK xs k)) := Lib.hid (OwnJ.mk (by rw [jobsK_len]; exact HO.out))
      have HA := Lib.hid (AreJobs_any _ _ wo HOW.out.rd)
      rw [← HE.out] at HA
      cases q
      · have HRV := Lib.hid (HNOV.out rfl)
        go_wp2_with (go_at_call 51; refine HA.out.mono ?_; rintro e w2 ⟨rfl, hb2⟩)
        go_ret2
        refine ⟨.slice none 0 0, rfl, ?_, HB1.out.trans ((HB.out.trans (hb2.mono hsz)).mono hz1)⟩
        rw [HRV.out]
        exact ⟨ownJ_nil _ _, by intro g hg; cases hg⟩
      · have HRV := Lib.hid (HYES.out rfl)
        go_wp2_with (go_at_call 51; refine HA.out.mono ?_; rintro e w2 ⟨rfl, hb2⟩)
        go_ret2
        refine ⟨.slice b k cc, rfl, ?_, HB1.out.trans ((HB.out.trans (hb2.mono hsz)).mono hz1)⟩
        rw [HRV.out]
        exact (HOW.out.up hb2 (Nat.le_refl _)).wide hz1 hb2.size
end Go.Proofs.YtgkbbpajkbkgnaaGreatDoor
