/-
  FnExactReadRows: texts joined: RdrS, LFnExactReadRows.
-/
import Derived.Deep.RegionHeld3
import Derived.Deep.Cut
import Derived.Test.YtggpbekclegfoaaDoorMEReadRowsAI
import Derived.Test.YtggpbekclegfoaaDoorMEReadRowsAJ
import Derived.Test.YtggpbekclegfoaaDoorMEReadRowsAM
namespace Go.Proofs.YtggpbekclegfoaaDoor
open Go.RowKit

theorem cutRd_any (c : UInt8) (s : ByteArray) (w : World) (hs : s.size ≤ 1048576) :
    Calls Tryd.prog 71 #[.string s, .int .u8 c.toNat] w fun e w' => ∃ a cap, e = .returned (.slice a (cutS c s).length cap) ∧ RdSs w' (.slice a (cutS c s).length cap) (cutS c s) ∧ Below w.heap.size w w' := by
  refine (l01Cut_any s c w hs).mono ?_
  rintro e w' ⟨a, cap, rfl, ho, hb⟩
  exact ⟨a, cap, rfl, ⟨slc_of_owns ho, fun x hx => by have := cutS_le c s x hx; unfold maxLen; omega⟩, hb⟩

set_option maxHeartbeats 4000000 in
set_option maxRecDepth 4000 in
theorem l08ReadRows_any (s : ByteArray) (w : World) (hs : s.size ≤ 1048576) :
    Calls Tryd.prog 42 #[.string s] w fun e w' => ∃ v', e = .returned (.tuple #[v', .bool (rdrOk s)]) ∧ OwnR w.heap.size w'.heap.size w' v' (rdrV s) ∧ Below w.heap.size w w' := by
  have HSZ := Lib.hid hs
  have HSP := Lib.hid (fun W => cutRd_any 59 s W hs)
  have HSH := Lib.hid (@rdr_short s)
  have HFO := Lib.hid (@rdr_four s)
  have HVN := Lib.hid (@rdrV_no s)
  have HVY := Lib.hid (@rdrV_yes s)
  have HLE := Lib.hid (cutS_le 59 s)
  clear hs
  obtain ⟨ps, hps⟩ : ∃ ps, ps = cutS 59 s := ⟨_, rfl⟩
  rw [← hps] at HSP HSH HFO HVY HLE
  obtain ⟨R, hR⟩ : ∃ R, R = rdrV s := ⟨_, rfl⟩
  rw [← hR] at HVN HVY ⊢
  obtain ⟨q, hq⟩ : ∃ q, q = rdrOk s := ⟨_, rfl⟩
  rw [← hq] at HSH HFO HVN HVY ⊢
  have HQ0 := Lib.hid hq
  clear hps hR hq
  go_enter Tryd.func42, Tryd.ntmps42
  go_upto_region 1 with fail
  refine wp_at fun W hW => ?_
  have HB := Lib.hid (show Below w.heap.size w W by subst hW; exact (Below.refl _ _).alloc (Nat.le_refl _) _)
  have HL := Lib.hid (show Blk W w.heap.size 35 #[.int .i64 0, .slice none 0 0, .slice none 0 0, .slice none 0 0] by subst hW; exact Blk.new _ _ _)
  clear hW
  have hlW := HL.out.lt
  have hzW := HB.out.size
  go_upto_region 2 with (go_at_call 71; refine (HSP.out _).mono ?_; rintro e w1 ⟨wa, wc, rfl, hrs, hb1⟩)
  have HB1 := Lib.hid (HB.out.trans (hb1.mono hzW))
  have HL1 := Lib.hid (HL.out.below hb1 hlW)
  have HRS := Lib.hid hrs
  have hz1 := Nat.le_trans hzW hb1.size
  have hlt1 : w.heap.size < w1.heap.size := HL1.out.lt
  clear hb1 hrs HSP HB HL hlW
  by_cases h4 : ps.length = 4
  case neg =>
    have hd : ((ps.length : Int) != 4) = true := by simp; omega
    have HNO := Lib.hid (HSH.out h4)
    have HRV := Lib.hid (HVN.out HNO.out)
    have e0 : w1.cell? ⟨w.heap.size, 0, none⟩ = some (.int .i64 0) := HL1.out.cell 0 rfl
    have e1 : w1.cell? ⟨w.heap.size, 1, none⟩ = some (.slice none 0 0) := HL1.out.cell 1 rfl
    have e2 : w1.cell? ⟨w.heap.size, 2, none⟩ = some (.slice none 0 0) := HL1.out.cell 2 rfl
    have e3 : w1.cell? ⟨w.heap.size, 3, none⟩ = some (.slice none 0 0) := HL1.out.cell 3 rfl
    have f0 := HL1.out.free 0
    have f1 := HL1.out.free 1
    have f2 := HL1.out.free 2
    have f3 := HL1.out.free 3
    have FIN := Lib.hid (show ∀ Wf, Kept (· = w.heap.size) w1 Wf → Below w.heap.size w Wf from fun Wf hk => HB1.out.trans (hk.toBelow HB1.out.size (by intro k h1 h2; omega)))
    clear h4
    go_wp2_with fail
    refine bodyPost_ret (v := .tuple #[.agg #[.int .i64 0, .slice none 0 0, .slice none 0 0, .slice none 0 0], .bool false]) (by simp [results, Tryd.results42, go_sem, *]) rfl ⟨.agg #[.int .i64 0, .slice none 0 0, .slice none 0 0, .slice none 0 0], by rw [HNO.out], by rw [HRV.out]; exact ownR_zero _ _ _, FIN.out _ ?_⟩
    repeat' first | exact Kept.refl _ _ | refine Kept.setCell ?_ (.inr (by simp)) _
  have hd : ((ps.length : Int) != 4) = false := by simp; omega
  have HQ := Lib.hid (HFO.out h4)
  have HVQ := Lib.hid (HVY.out)
  obtain ⟨xb, xo, rfl, _, hx0⟩ := HRS.out.at (i := 0) (by omega)
  obtain ⟨xb1, xo1, ee1, _, hx1⟩ := HRS.out.at (i := 1) (by omega)
  simp only [Option.some.injEq, Addr.mk.injEq, and_true] at ee1
  obtain ⟨rfl, rfl⟩ := ee1
  obtain ⟨xb2, xo2, ee2, _, hx2⟩ := HRS.out.at (i := 2) (by omega)
  simp only [Option.some.injEq, Addr.mk.injEq, and_true] at ee2
  obtain ⟨rfl, rfl⟩ := ee2
  obtain ⟨xb3, xo3, ee3, _, hx3⟩ := HRS.out.at (i := 3) (by omega)
  simp only [Option.some.injEq, Addr.mk.injEq, and_true] at ee3
  obtain ⟨rfl, rfl⟩ := ee3
  have hsz := fun i (hi : i < ps.length) => Nat.le_trans (HLE.out _ (getD_mem hi)) HSZ.out
  have hs0 := hsz 0 (by omega)
  have hs1 := hsz 1 (by omega)
  have hs2 := hsz 2 (by omega)
  have hs3 := hsz 3 (by omega)
  have hn4 : ps.length = 4 := h4
  obtain ⟨p0, hp0⟩ : ∃ p, p = ps.getD 0 E0 := ⟨_, rfl⟩
  rw [← hp0] at hx0 hs0 HQ HVQ
  obtain ⟨p1, hp1⟩ : ∃ p, p = ps.getD 1 E0 := ⟨_, rfl⟩
  rw [← hp1] at hx1 hs1 HQ HVQ
  obtain ⟨p2, hp2⟩ : ∃ p, p = ps.getD 2 E0 := ⟨_, rfl⟩
  rw [← hp2] at hx2 hs2 HQ HVQ
  obtain ⟨p3, hp3⟩ : ∃ p, p = ps.getD 3 E0 := ⟨_, rfl⟩
  rw [← hp3] at hx3 hs3 HQ HVQ
  rw [Nat.add_zero] at hx0
  obtain ⟨n4, hn4e⟩ : ∃ n4, n4 = ps.length := ⟨_, rfl⟩
  rw [← hn4e] at hd hn4 ⊢
  clear hp0 hp1 hp2 hp3 hsz HSH HFO HVY HRS HLE h4 hn4e
  subst hn4
  clear hd
  have HD0 := Lib.hid (l01Value_any p0 w1 hs0)
  go_upto_region 5 with (go_at_call 72; refine HD0.out.mono ?_; rintro e w2 ⟨rfl, hb⟩)
  have HB2 := Lib.hid (HB1.out.trans (hb.mono hz1))
  have HL2 := Lib.hid (HL1.out.below hb HL1.out.lt)
  replace hx1 := held_of hb hx1 (Nat.le_refl _)
  replace hx2 := held_of hb hx2 (Nat.le_refl _)
  replace hx3 := held_of hb hx3 (Nat.le_refl _)
  have hz2 := Nat.le_trans hz1 hb.size
  have hlt2 : w.heap.size < w2.heap.size := HL2.out.lt
  clear hb HD0 hx0 HB1 HL1
  have HN1 := Lib.hid (l01NRead_any p1 w2 hs1)
  go_upto_region 6 with (go_at_call 73; refine HN1.out.mono ?_; rintro e w3 ⟨sa1, sc1, rfl, ho1, hb1⟩)
  have HB3 := Lib.hid (HB2.out.trans (hb1.mono hz2))
  have HL3 := Lib.hid (HL2.out.below hb1 HL2.out.lt)
  replace hx2 := held_of hb1 hx2 (Nat.le_refl _)
  replace hx3 := held_of hb1 hx3 (Nat.le_refl _)
  have hz3 := Nat.le_trans hz2 hb1.size
  have HBB1 := Lib.hid hb1
  have HOO1 := Lib.hid ho1
  clear hb1 ho1 HN1 hx1 HB2 HL2
  have HN2 := Lib.hid (l01NRead_any p2 w3 hs2)
  go_upto_region 7 with (go_at_call 73; refine HN2.out.mono ?_; rintro e w4 ⟨sa2, sc2, rfl, ho2, hb2⟩)
  have HB4 := Lib.hid (HB3.out.trans (hb2.mono hz3))
  have HL4 := Lib.hid (HL3.out.below hb2 HL3.out.lt)
  replace hx3 := held_of hb2 hx3 (Nat.le_refl _)
  have hz4 := Nat.le_trans hz3 hb2.size
  have HBB2 := Lib.hid hb2
  have HOO2 := Lib.hid ho2
  clear hb2 ho2 HN2 hx2 HB3 HL3
  have HN3 := Lib.hid (l01NRead_any p3 w4 hs3)
  go_upto_region 8 with (go_at_call 73; refine HN3.out.mono ?_; rintro e w5 ⟨sa3, sc3, rfl, ho3, hb3⟩)
  have HB5 := Lib.hid (HB4.out.trans (hb3.mono hz4))
  have HL5 := Lib.hid (HL4.out.below hb3 HL4.out.lt)
  have hz5 := Nat.le_trans hz4 hb3.size
  have HBB3 := Lib.hid hb3
  have HOO3 := Lib.hid ho3
  clear hb3 ho3 HN3 hx3 HB4 HL4
  have HOW := Lib.hid (ownR_mk (z := valN p0) HOO1.out hlt2 HOO2.out (Nat.le_refl _) HOO3.out (Nat.le_refl _) HBB2.out HBB3.out HBB1.out.size)
  clear HOO1 HOO2 HOO3 HBB1 HBB2 HBB3 hs0 hs1 hs2 hs3
  have e0 : w5.cell? ⟨w.heap.size, 0, none⟩ = some (.int .i64 0) := HL5.out.cell 0 rfl
  have e1 : w5.cell? ⟨w.heap.size, 1, none⟩ = some (.slice none 0 0) := HL5.out.cell 1 rfl
  have e2 : w5.cell? ⟨w.heap.size, 2, none⟩ = some (.slice none 0 0) := HL5.out.cell 2 rfl
  have e3 : w5.cell? ⟨w.heap.size, 3, none⟩ = some (.slice none 0 0) := HL5.out.cell 3 rfl
  have f0 := HL5.out.free 0
  have f1 := HL5.out.free 1
  have f2 := HL5.out.free 2
  have f3 := HL5.out.free 3
  have hlt5 : w.heap.size < w5.heap.size := HL5.out.lt
  have FIN := Lib.hid (show ∀ Wf, Kept (· = w.heap.size) w5 Wf → Below w.heap.size w Wf from fun Wf hk => HB5.out.trans (hk.toBelow HB5.out.size (by intro k h1 h2; omega)))
  have HRW := Lib.hid (show rowsW p0 p1 p2 p3 = ⟨valN p0, fltV p1, fltV p2, fltV p3⟩ from rfl)
  have HRB := Lib.hid (show rowsB p0 p1 p2 p3 = (valOk p0 && (fltOk p1 && (fltOk p2 && (fltOk p3 && validR (rowsW p0 p1 p2 p3))))) from rfl)
  rw [HRB.out] at HQ
  obtain ⟨RR, hRR⟩ : ∃ RR, RR = rowsW p0 p1 p2 p3 := ⟨_, rfl⟩
  have HRR := Lib.hid (hRR.trans HRW.out)
  rw [← hRR] at HQ HVQ
  have HRDR := Lib.hid (show RdR w5 (.agg #[.int .i64 (valN p0), .slice sa1 (fltV p1).length sc1, .slice sa2 (fltV p2).length sc2, .slice sa3 (fltV p3).length sc3]) RR by rw [HRR.out]; exact HOW.out.rd)
  rw [← HRR.out] at HOW
  have HCH := Lib.hid (l02Give_any _ RR w5 HRDR.out)
  clear hRR HRW HRR HRB HRDR
  obtain ⟨z0, hz0⟩ : ∃ z, z = valN p0 := ⟨_, rfl⟩
  obtain ⟨y1, hy1⟩ : ∃ y, y = (fltV p1).length := ⟨_, rfl⟩
  obtain ⟨y2, hy2⟩ : ∃ y, y = (fltV p2).length := ⟨_, rfl⟩
  obtain ⟨y3, hy3⟩ : ∃ y, y = (fltV p3).length := ⟨_, rfl⟩
  rw [← hz0, ← hy1, ← hy2, ← hy3] at HOW HCH
  rw [← hz0, ← hy1, ← hy2, ← hy3]
  obtain ⟨q0, hq0⟩ : ∃ z, z = valOk p0 := ⟨_, rfl⟩
  obtain ⟨q1, hq1⟩ : ∃ z, z = fltOk p1 := ⟨_, rfl⟩
  obtain ⟨q2, hq2⟩ : ∃ z, z = fltOk p2 := ⟨_, rfl⟩
  obtain ⟨q3, hq3⟩ : ∃ z, z = fltOk p3 := ⟨_, rfl⟩
  rw [← hq0, ← hq1, ← hq2, ← hq3] at HQ
  rw [← hq0, ← hq1, ← hq2, ← hq3]
  clear hz0 hy1 hy2 hy3 hq0 hq1 hq2 hq3
  cases q0
  · have HNO := Lib.hid (show q = false by rw [HQ.out]; rfl)
    have HRV := Lib.hid (HVN.out HNO.out)
    clear HCH HOW
    go_wp2_with fail
    refine bodyPost_ret (v := .tuple #[.agg #[.int .i64 0, .slice none 0 0, .slice none 0 0, .slice none 0 0], .bool false]) (by simp [results, Tryd.results42, go_sem, *]) rfl ⟨.agg #[.int .i64 0, .slice none 0 0, .slice none 0 0, .slice none 0 0], by rw [HNO.out], by rw [HRV.out]; exact ownR_zero _ _ _, FIN.out _ ?_⟩
    repeat' first | exact Kept.refl _ _ | refine Kept.setCell ?_ (.inr (by simp)) _
  cases q1
  · have HNO := Lib.hid (show q = false by rw [HQ.out]; rfl)
    have HRV := Lib.hid (HVN.out HNO.out)
    clear HCH HOW
    go_wp2_with fail
    refine bodyPost_ret (v := .tuple #[.agg #[.int .i64 0, .slice none 0 0, .slice none 0 0, .slice none 0 0], .bool false]) (by simp [results, Tryd.results42, go_sem, *]) rfl ⟨.agg #[.int .i64 0, .slice none 0 0, .slice none 0 0, .slice none 0 0], by rw [HNO.out], by rw [HRV.out]; exact ownR_zero _ _ _, FIN.out _ ?_⟩
    repeat' first | exact Kept.refl _ _ | refine Kept.setCell ?_ (.inr (by simp)) _
  cases q2
  · have HNO := Lib.hid (show q = false by rw [HQ.out]; rfl)
    have HRV := Lib.hid (HVN.out HNO.out)
    clear HCH HOW
    go_wp2_with fail
    refine bodyPost_ret (v := .tuple #[.agg #[.int .i64 0, .slice none 0 0, .slice none 0 0, .slice none 0 0], .bool false]) (by simp [results, Tryd.results42, go_sem, *]) rfl ⟨.agg #[.int .i64 0, .slice none 0 0, .slice none 0 0, .slice none 0 0], by rw [HNO.out], by rw [HRV.out]; exact ownR_zero _ _ _, FIN.out _ ?_⟩
    repeat' first | exact Kept.refl _ _ | refine Kept.setCell ?_ (.inr (by simp)) _
  cases q3
  · have HNO := Lib.hid (show q = false by rw [HQ.out]; rfl)
    have HRV := Lib.hid (HVN.out HNO.out)
    clear HCH HOW
    go_wp2_with fail
    refine bodyPost_ret (v := .tuple #[.agg #[.int .i64 0, .slice none 0 0, .slice none 0 0, .slice none 0 0], .bool false]) (by simp [results, Tryd.results42, go_sem, *]) rfl ⟨.agg #[.int .i64 0, .slice none 0 0, .slice none 0 0, .slice none 0 0], by rw [HNO.out], by rw [HRV.out]; exact ownR_zero _ _ _, FIN.out _ ?_⟩
    repeat' first | exact Kept.refl _ _ | refine Kept.setCell ?_ (.inr (by simp)) _
  obtain ⟨qv, hqv⟩ : ∃ z, z = validR RR := ⟨_, rfl⟩
  rw [← hqv] at HCH HQ
  clear hqv
  cases qv
  · have HNO := Lib.hid (show q = false by rw [HQ.out]; rfl)
    have HRV := Lib.hid (HVN.out HNO.out)
    have HC2 := Lib.hid (show Calls Tryd.prog 74 #[.agg #[.int .i64 z0, .slice sa1 y1 sc1, .slice sa2 y2 sc2, .slice sa3 y3 sc3]] w5 fun e w' => e = .returned (.tuple #[.agg #[.int .i64 0, .slice none 0 0, .slice none 0 0, .slice none 0 0], .bool false]) ∧ Below w5.heap.size w5 w' from HCH.out)
    clear HCH HOW
    go_wp2_with (first
      | (go_at_call 74; refine HC2.out.mono ?_; rintro e w6 ⟨rfl, hb6⟩; replace e0 := held_of hb6 e0 (Nat.le_refl _); replace e1 := held_of hb6 e1 (Nat.le_refl _); replace e2 := held_of hb6 e2 (Nat.le_refl _); replace e3 := held_of hb6 e3 (Nat.le_refl _); have HL6 := Lib.hid (HL5.out.below hb6 HL5.out.lt); replace f0 := HL6.out.free 0; replace f1 := HL6.out.free 1; replace f2 := HL6.out.free 2; replace f3 := HL6.out.free 3; have HB6 := Lib.hid (HB5.out.trans (hb6.mono HB5.out.size)); have FIN6 := Lib.hid (show ∀ Wf, Kept (· = w.heap.size) w6 Wf → Below w.heap.size w Wf from fun Wf hk => HB6.out.trans (hk.toBelow HB6.out.size (by intro k h1 h2; omega))); clear hb6)
      | fail)
    refine bodyPost_ret (v := .tuple #[.agg #[.int .i64 0, .slice none 0 0, .slice none 0 0, .slice none 0 0], .bool false]) (by simp [results, Tryd.results42, go_sem, *]) rfl ⟨.agg #[.int .i64 0, .slice none 0 0, .slice none 0 0, .slice none 0 0], by rw [HNO.out], by rw [HRV.out]; exact ownR_zero _ _ _, FIN6.out _ ?_⟩
    repeat' first | exact Kept.refl _ _ | refine Kept.setCell ?_ (.inr (by simp)) _
  · have HYES := Lib.hid (show q = true by rw [HQ.out]; rfl)
    have HRV := Lib.hid (HVQ.out HYES.out)
    have HC2 := Lib.hid (show Calls Tryd.prog 74 #[.agg #[.int .i64 z0, .slice sa1 y1 sc1, .slice sa2 y2 sc2, .slice sa3 y3 sc3]] w5 fun e w' => e = .returned (.tuple #[.agg #[.int .i64 z0, .slice sa1 y1 sc1, .slice sa2 y2 sc2, .slice sa3 y3 sc3], .bool true]) ∧ Below w5.heap.size w5 w' from HCH.out)
    clear HCH
    go_wp2_with (first
      | (go_at_call 74; refine HC2.out.mono ?_; rintro e w6 ⟨rfl, hb6⟩; replace e0 := held_of hb6 e0 (Nat.le_refl _); replace e1 := held_of hb6 e1 (Nat.le_refl _); replace e2 := held_of hb6 e2 (Nat.le_refl _); replace e3 := held_of hb6 e3 (Nat.le_refl _); have HL6 := Lib.hid (HL5.out.below hb6 HL5.out.lt); replace f0 := HL6.out.free 0; replace f1 := HL6.out.free 1; replace f2 := HL6.out.free 2; replace f3 := HL6.out.free 3; have HB6 := Lib.hid (HB5.out.trans (hb6.mono HB5.out.size)); have HO6 := Lib.hid ((HOW.out.up hb6 (Nat.le_refl _)).wide (Nat.le_refl _) hb6.size); have FIN6 := Lib.hid (show ∀ Wf, Kept (· = w.heap.size) w6 Wf → OwnR w.heap.size Wf.heap.size Wf (.agg #[.int .i64 z0, .slice sa1 y1 sc1, .slice sa2 y2 sc2, .slice sa3 y3 sc3]) RR ∧ Below w.heap.size w Wf from fun Wf hk => ⟨(HO6.out.kept hk (by intro b h1 h2 h3; omega)).wide (Nat.le_succ _) hk.size, HB6.out.trans (hk.toBelow HB6.out.size (by intro k h1 h2; omega))⟩); clear hb6)
      | fail)
    refine bodyPost_ret (v := .tuple #[.agg #[.int .i64 z0, .slice sa1 y1 sc1, .slice sa2 y2 sc2, .slice sa3 y3 sc3], .bool true]) (by simp [results, Tryd.results42, go_sem, *]) rfl ⟨.agg #[.int .i64 z0, .slice sa1 y1 sc1, .slice sa2 y2 sc2, .slice sa3 y3 sc3], by rw [HYES.out], ?_⟩
    rw [HRV.out]
    refine FIN6.out _ ?_
    repeat' first | exact Kept.refl _ _ | refine Kept.setCell ?_ (.inr (by simp)) _

set_option maxHeartbeats 1000000 in
theorem readRowsS_any (s : ByteArray) (w : World) (hs : s.size ≤ 1048576) :
    Calls Tryd.prog 21 #[.string s] w fun e w' => ∃ v', e = .returned (.tuple #[v', .bool (rdrOk s)]) ∧ OwnR w.heap.size w'.heap.size w' v' (rdrV s) ∧ Below w.heap.size w w' := by
  have HR := Lib.hid (fun W => l08ReadRows_any s W hs)
  clear hs
  obtain ⟨R, hR⟩ : ∃ R, R = rdrV s := ⟨_, rfl⟩
  obtain ⟨q, hq⟩ : ∃ q, q = rdrOk s := ⟨_, rfl⟩
  rw [← hR, ← hq] at HR ⊢
  clear hR hq
  go_enter Tryd.func21, Tryd.ntmps21
  go_upto_region 1 with fail
  refine wp_at fun W hW => ?_
  have HB := Lib.hid (show Below w.heap.size w W by subst hW; exact (Below.refl _ _).alloc (Nat.le_refl _) _)
  have HL := Lib.hid (show Blk W w.heap.size 35 #[.int .i64 0, .slice none 0 0, .slice none 0 0, .slice none 0 0] by subst hW; exact Blk.new _ _ _)
  clear hW
  have hlW := HL.out.lt
  have hzW := HB.out.size
  go_wp2_with (first
    | (go_at_call 42; refine (HR.out _).mono ?_; rintro e w6 ⟨v', rfl, ho, hb6⟩; obtain ⟨va, vb, vc, rfl, h1, h2, h3, h4⟩ := ho; obtain ⟨a1, c1, rfl⟩ := h1.rd.shape; obtain ⟨a2, c2, rfl⟩ := h2.rd.shape; obtain ⟨a3, c3, rfl⟩ := h3.rd.shape; have HO6 := Lib.hid (show OwnR W.heap.size w6.heap.size w6 (.agg #[.int .i64 R.vars, .slice a1 R.nums.length c1, .slice a2 R.bnds.length c2, .slice a3 R.gains.length c3]) R from ⟨_, _, _, rfl, h1, h2, h3, h4⟩); have HL6 := Lib.hid (HL.out.below hb6 hlW); have e0 : w6.cell? ⟨w.heap.size, 0, none⟩ = some (.int .i64 0) := HL6.out.cell 0 rfl; have e1 : w6.cell? ⟨w.heap.size, 1, none⟩ = some (.slice none 0 0) := HL6.out.cell 1 rfl; have e2 : w6.cell? ⟨w.heap.size, 2, none⟩ = some (.slice none 0 0) := HL6.out.cell 2 rfl; have e3 : w6.cell? ⟨w.heap.size, 3, none⟩ = some (.slice none 0 0) := HL6.out.cell 3 rfl; have f0 := HL6.out.free 0; have f1 := HL6.out.free 1; have f2 := HL6.out.free 2; have f3 := HL6.out.free 3; have HB6 := Lib.hid (HB.out.trans (hb6.mono hzW)); have FIN6 := Lib.hid (show ∀ Wf, Kept (· = w.heap.size) w6 Wf → OwnR w.heap.size Wf.heap.size Wf (.agg #[.int .i64 R.vars, .slice a1 R.nums.length c1, .slice a2 R.bnds.length c2, .slice a3 R.gains.length c3]) R ∧ Below w.heap.size w Wf from fun Wf hk => ⟨(HO6.out.kept hk (by intro b h1 h2 h3; omega)).wide hzW hk.size, HB6.out.trans (hk.toBelow HB6.out.size (by intro k h1 h2; omega))⟩); clear h1 h2 h3 h4 hb6)
    | fail)
  refine bodyPost_ret (v := .tuple #[.agg #[.int .i64 R.vars, .slice a1 R.nums.length c1, .slice a2 R.bnds.length c2, .slice a3 R.gains.length c3], .bool q]) (by simp [results, Tryd.results21, go_sem, *]) rfl ⟨.agg #[.int .i64 R.vars, .slice a1 R.nums.length c1, .slice a2 R.bnds.length c2, .slice a3 R.gains.length c3], rfl, ?_⟩
  refine FIN6.out _ ?_
  repeat' first | exact Kept.refl _ _ | refine Kept.setCell ?_ (.inr (by simp)) _


end Go.Proofs.YtggpbekclegfoaaDoor

namespace Go.Proofs.YtggpbekclegfoaaDoor
open Go.RowKit

set_option maxHeartbeats 4000000 in
set_option maxRecDepth 100000 in
theorem lawReadRows_any (w : World) (a0 : ByteArray) (hpw : HasPow w) (hmw : HasMax w) (hew : HasErrs w) :
    Calls Tryd.prog 6 #[.string a0] w fun e w' => e = .returned (.bool true) ∧ Below w.heap.size w w' := by
  have B : Hid (Below w.heap.size w w) := Below.refl _ _
  have HPW := Lib.hid hpw
  have HMW := Lib.hid hmw
  have HEW := Lib.hid hew
  clear hpw hmw hew
  go_enter Tryd.func6, Tryd.ntmps6
  by_cases hg0 : (1048576 : Int) < (a0.size : Nat)
  · go_wp2_with fail
    go_ret
    exact ⟨rfl, B.out⟩
  have hs0 : a0.size ≤ 1048576 := by omega
  have ne1 : ((rdrOk a0) != (rdrOk a0)) = false := by simp
  go_upto_region 3 with fail
  go_wp2_with fail
  refine (readRowsS_any a0 _ hs0).mono ?_
  rintro e w1 ⟨Wv0, rfl, Wo0, hb⟩
  replace Wo0 := Lib.hid Wo0
  replace B := Lib.hid (B.out.trans (hb.mono B.out.size))
  have zw1 : w.heap.size ≤ w1.heap.size := hb.size
  clear hb
  obtain ⟨xW0, cW0, yW0, dW0, uW0, fW0, rfl⟩ := Wo0.out.rd.shape
  go_upto_region 4 with fail
  refine wp_at fun w2 hW => ?_
  have hb : Below w1.heap.size w1 w2 := by subst hW; (repeat' first | exact Below.refl _ _ | assumption | refine Below.alloc ?_ ?_ _ | refine Below.setCell ?_ ?_ _ | refine Below.drew ?_ | (simp; done) | (simp; omega))
  have YW0 := Lib.hid (show Blk w2 w1.heap.size 35 #[.int .i64 (rdrV a0).vars, .slice xW0 (rdrV a0).nums.length cW0, .slice yW0 (rdrV a0).bnds.length dW0, .slice uW0 (rdrV a0).gains.length fW0] by subst hW; exact Blk.new _ _ _)
  clear hW
  replace B := Lib.hid (B.out.trans (hb.mono B.out.size))
  replace Wo0 := Lib.hid (Wo0.out.up hb (Nat.le_refl _))
  have zw2 : w1.heap.size ≤ w2.heap.size := hb.size
  clear hb
  have lYW0 := YW0.out.lt
  go_wp2_with fail
  refine (readRowsI_any a0 _ (HPW.out.up B.out (Nat.le_refl _)) (HMW.out.up B.out (Nat.le_refl _)) (HEW.out.up B.out (Nat.le_refl _)) hs0).mono ?_
  rintro e w3 ⟨Gv0, rfl, Go0, hb⟩
  replace Go0 := Lib.hid Go0
  replace B := Lib.hid (B.out.trans (hb.mono B.out.size))
  replace Wo0 := Lib.hid (Wo0.out.up hb (Nat.le_refl _))
  replace YW0 := Lib.hid (YW0.out.below hb YW0.out.lt)
  have zw3 : w2.heap.size ≤ w3.heap.size := hb.size
  clear hb
  obtain ⟨xG0, cG0, yG0, dG0, uG0, fG0, rfl⟩ := Go0.out.rd.shape
  go_upto_region 5 with fail
  refine wp_at fun w4 hW => ?_
  have hb : Below w3.heap.size w3 w4 := by subst hW; (repeat' first | exact Below.refl _ _ | assumption | refine Below.alloc ?_ ?_ _ | refine Below.setCell ?_ ?_ _ | refine Below.drew ?_ | (simp; done) | (simp; omega))
  have YG0 := Lib.hid (show Blk w4 w3.heap.size 35 #[.int .i64 (rdrV a0).vars, .slice xG0 (rdrV a0).nums.length cG0, .slice yG0 (rdrV a0).bnds.length dG0, .slice uG0 (rdrV a0).gains.length fG0] by subst hW; exact Blk.new _ _ _)
  clear hW
  replace B := Lib.hid (B.out.trans (hb.mono B.out.size))
  replace Wo0 := Lib.hid (Wo0.out.up hb (Nat.le_refl _))
  replace YW0 := Lib.hid (YW0.out.below hb YW0.out.lt)
  replace Go0 := Lib.hid (Go0.out.up hb (Nat.le_refl _))
  have zw4 : w3.heap.size ≤ w4.heap.size := hb.size
  clear hb
  have lYG0 := YG0.out.lt
  have tYG0_0 : w4.cell? ⟨w3.heap.size, 0, none⟩ = some (.int .i64 (rdrV a0).vars) := YG0.out.cell 0 rfl
  have tYG0_1 : w4.cell? ⟨w3.heap.size, 1, none⟩ = some (.slice xG0 (rdrV a0).nums.length cG0) := YG0.out.cell 1 rfl
  have tYG0_2 : w4.cell? ⟨w3.heap.size, 2, none⟩ = some (.slice yG0 (rdrV a0).bnds.length dG0) := YG0.out.cell 2 rfl
  have tYG0_3 : w4.cell? ⟨w3.heap.size, 3, none⟩ = some (.slice uG0 (rdrV a0).gains.length fG0) := YG0.out.cell 3 rfl
  have tYW0_0 : w4.cell? ⟨w1.heap.size, 0, none⟩ = some (.int .i64 (rdrV a0).vars) := YW0.out.cell 0 rfl
  have tYW0_1 : w4.cell? ⟨w1.heap.size, 1, none⟩ = some (.slice xW0 (rdrV a0).nums.length cW0) := YW0.out.cell 1 rfl
  have tYW0_2 : w4.cell? ⟨w1.heap.size, 2, none⟩ = some (.slice yW0 (rdrV a0).bnds.length dW0) := YW0.out.cell 2 rfl
  have tYW0_3 : w4.cell? ⟨w1.heap.size, 3, none⟩ = some (.slice uW0 (rdrV a0).gains.length fW0) := YW0.out.cell 3 rfl
  go_wp2_with fail
  refine (eqR_same _ _ (rdrV a0) _ Go0.out.rd Wo0.out.rd).mono ?_
  rintro e w5 ⟨rfl, hb⟩
  clear tYG0_0 tYG0_1 tYG0_2 tYG0_3 tYW0_0 tYW0_1 tYW0_2 tYW0_3
  replace B := Lib.hid (B.out.trans (hb.mono B.out.size))
  replace Wo0 := Lib.hid (Wo0.out.up hb (Nat.le_refl _))
  replace YW0 := Lib.hid (YW0.out.below hb YW0.out.lt)
  replace Go0 := Lib.hid (Go0.out.up hb (Nat.le_refl _))
  replace YG0 := Lib.hid (YG0.out.below hb YG0.out.lt)
  have zw5 : w4.heap.size ≤ w5.heap.size := hb.size
  clear hb
  have hcGo0 : (0 : Int) ≤ (cntR (rdrV a0) : Nat) := by omega
  have Go0h := Go0
  clear Go0h
  go_upto_region 8 with fail
  have tYG0_0 : w5.cell? ⟨w3.heap.size, 0, none⟩ = some (.int .i64 (rdrV a0).vars) := YG0.out.cell 0 rfl
  have tYG0_1 : w5.cell? ⟨w3.heap.size, 1, none⟩ = some (.slice xG0 (rdrV a0).nums.length cG0) := YG0.out.cell 1 rfl
  have tYG0_2 : w5.cell? ⟨w3.heap.size, 2, none⟩ = some (.slice yG0 (rdrV a0).bnds.length dG0) := YG0.out.cell 2 rfl
  have tYG0_3 : w5.cell? ⟨w3.heap.size, 3, none⟩ = some (.slice uG0 (rdrV a0).gains.length fG0) := YG0.out.cell 3 rfl
  go_wp2_with fail
  refine (markR_o _ _ _ (rdrV a0) _ _ Go0.out (by omega) (by have := rdrV_cnt a0; omega)).mono ?_
  rintro e w6 ⟨rfl, MGo0, hb⟩
  clear tYG0_0 tYG0_1 tYG0_2 tYG0_3
  replace MGo0 := Lib.hid MGo0
  replace B := Lib.hid (B.out.trans (hb.toBelow B.out.size (by rintro k hk1 ⟨h1, h2⟩; omega)))
  replace Wo0 := Lib.hid (Wo0.out.kept hb (by rintro b h1 h2 ⟨h3, h4⟩; omega))
  replace YW0 := Lib.hid (YW0.out.kept hb (by rintro ⟨h1, h2⟩; omega))
  replace YG0 := Lib.hid (YG0.out.kept hb (by rintro ⟨h1, h2⟩; omega))
  have zw6 : w5.heap.size ≤ w6.heap.size := hb.size
  clear hb
  clear Go0
  have nm : ((1 + (cntR (rdrV a0) : Int) : Int) != (1 + (cntR (rdrV a0) : Int) : Int)) = false := by simp
  go_upto_region 10 with fail
  have tYG0_0 : w6.cell? ⟨w3.heap.size, 0, none⟩ = some (.int .i64 (rdrV a0).vars) := YG0.out.cell 0 rfl
  have tYG0_1 : w6.cell? ⟨w3.heap.size, 1, none⟩ = some (.slice xG0 (rdrV a0).nums.length cG0) := YG0.out.cell 1 rfl
  have tYG0_2 : w6.cell? ⟨w3.heap.size, 2, none⟩ = some (.slice yG0 (rdrV a0).bnds.length dG0) := YG0.out.cell 2 rfl
  have tYG0_3 : w6.cell? ⟨w3.heap.size, 3, none⟩ = some (.slice uG0 (rdrV a0).gains.length fG0) := YG0.out.cell 3 rfl
  go_wp2_with fail
  refine (heldR_o _ (rdrV a0) _ _ MGo0.out.rd (by omega) (by have := rdrV_cnt a0; omega)).mono ?_
  rintro e w7 ⟨rfl, hb⟩
  clear tYG0_0 tYG0_1 tYG0_2 tYG0_3
  replace B := Lib.hid (B.out.trans (hb.mono B.out.size))
  replace Wo0 := Lib.hid (Wo0.out.up hb (Nat.le_refl _))
  replace YW0 := Lib.hid (YW0.out.below hb YW0.out.lt)
  replace YG0 := Lib.hid (YG0.out.below hb YG0.out.lt)
  replace MGo0 := Lib.hid (MGo0.out.up hb (Nat.le_refl _))
  have zw7 : w6.heap.size ≤ w7.heap.size := hb.size
  clear hb
  go_upto_region 15 with fail
  go_wp2_with fail
  refine (readRowsI_any a0 _ (HPW.out.up B.out (Nat.le_refl _)) (HMW.out.up B.out (Nat.le_refl _)) (HEW.out.up B.out (Nat.le_refl _)) hs0).mono ?_
  rintro e w8 ⟨Hv0, rfl, Ho0, hb⟩
  replace Ho0 := Lib.hid Ho0
  replace B := Lib.hid (B.out.trans (hb.mono B.out.size))
  replace Wo0 := Lib.hid (Wo0.out.up hb (Nat.le_refl _))
  replace YW0 := Lib.hid (YW0.out.below hb YW0.out.lt)
  replace YG0 := Lib.hid (YG0.out.below hb YG0.out.lt)
  replace MGo0 := Lib.hid (MGo0.out.up hb (Nat.le_refl _))
  have zw8 : w7.heap.size ≤ w8.heap.size := hb.size
  clear hb
  obtain ⟨xH0, cH0, yH0, dH0, uH0, fH0, rfl⟩ := Ho0.out.rd.shape
  go_upto_region 16 with fail
  refine wp_at fun w9 hW => ?_
  have hb : Below w8.heap.size w8 w9 := by subst hW; (repeat' first | exact Below.refl _ _ | assumption | refine Below.alloc ?_ ?_ _ | refine Below.setCell ?_ ?_ _ | refine Below.drew ?_ | (simp; done) | (simp; omega))
  have YH0 := Lib.hid (show Blk w9 w8.heap.size 35 #[.int .i64 (rdrV a0).vars, .slice xH0 (rdrV a0).nums.length cH0, .slice yH0 (rdrV a0).bnds.length dH0, .slice uH0 (rdrV a0).gains.length fH0] by subst hW; exact Blk.new _ _ _)
  clear hW
  replace B := Lib.hid (B.out.trans (hb.mono B.out.size))
  replace Wo0 := Lib.hid (Wo0.out.up hb (Nat.le_refl _))
  replace YW0 := Lib.hid (YW0.out.below hb YW0.out.lt)
  replace YG0 := Lib.hid (YG0.out.below hb YG0.out.lt)
  replace MGo0 := Lib.hid (MGo0.out.up hb (Nat.le_refl _))
  replace Ho0 := Lib.hid (Ho0.out.up hb (Nat.le_refl _))
  have zw9 : w8.heap.size ≤ w9.heap.size := hb.size
  clear hb
  have lYH0 := YH0.out.lt
  have tYH0_0 : w9.cell? ⟨w8.heap.size, 0, none⟩ = some (.int .i64 (rdrV a0).vars) := YH0.out.cell 0 rfl
  have tYH0_1 : w9.cell? ⟨w8.heap.size, 1, none⟩ = some (.slice xH0 (rdrV a0).nums.length cH0) := YH0.out.cell 1 rfl
  have tYH0_2 : w9.cell? ⟨w8.heap.size, 2, none⟩ = some (.slice yH0 (rdrV a0).bnds.length dH0) := YH0.out.cell 2 rfl
  have tYH0_3 : w9.cell? ⟨w8.heap.size, 3, none⟩ = some (.slice uH0 (rdrV a0).gains.length fH0) := YH0.out.cell 3 rfl
  have tYW0_0 : w9.cell? ⟨w1.heap.size, 0, none⟩ = some (.int .i64 (rdrV a0).vars) := YW0.out.cell 0 rfl
  have tYW0_1 : w9.cell? ⟨w1.heap.size, 1, none⟩ = some (.slice xW0 (rdrV a0).nums.length cW0) := YW0.out.cell 1 rfl
  have tYW0_2 : w9.cell? ⟨w1.heap.size, 2, none⟩ = some (.slice yW0 (rdrV a0).bnds.length dW0) := YW0.out.cell 2 rfl
  have tYW0_3 : w9.cell? ⟨w1.heap.size, 3, none⟩ = some (.slice uW0 (rdrV a0).gains.length fW0) := YW0.out.cell 3 rfl
  go_wp2_with fail
  refine (eqR_same _ _ (rdrV a0) _ Ho0.out.rd Wo0.out.rd).mono ?_
  rintro e w10 ⟨rfl, hb⟩
  clear tYH0_0 tYH0_1 tYH0_2 tYH0_3 tYW0_0 tYW0_1 tYW0_2 tYW0_3
  replace B := Lib.hid (B.out.trans (hb.mono B.out.size))
  replace Wo0 := Lib.hid (Wo0.out.up hb (Nat.le_refl _))
  replace YW0 := Lib.hid (YW0.out.below hb YW0.out.lt)
  replace YG0 := Lib.hid (YG0.out.below hb YG0.out.lt)
  replace MGo0 := Lib.hid (MGo0.out.up hb (Nat.le_refl _))
  replace Ho0 := Lib.hid (Ho0.out.up hb (Nat.le_refl _))
  replace YH0 := Lib.hid (YH0.out.below hb YH0.out.lt)
  have zw10 : w9.heap.size ≤ w10.heap.size := hb.size
  clear hb
  go_upto_region 19 with fail
  have tYG0_0 : w10.cell? ⟨w3.heap.size, 0, none⟩ = some (.int .i64 (rdrV a0).vars) := YG0.out.cell 0 rfl
  have tYG0_1 : w10.cell? ⟨w3.heap.size, 1, none⟩ = some (.slice xG0 (rdrV a0).nums.length cG0) := YG0.out.cell 1 rfl
  have tYG0_2 : w10.cell? ⟨w3.heap.size, 2, none⟩ = some (.slice yG0 (rdrV a0).bnds.length dG0) := YG0.out.cell 2 rfl
  have tYG0_3 : w10.cell? ⟨w3.heap.size, 3, none⟩ = some (.slice uG0 (rdrV a0).gains.length fG0) := YG0.out.cell 3 rfl
  go_wp2_with fail
  refine (heldR_o _ (rdrV a0) _ _ MGo0.out.rd (by omega) (by have := rdrV_cnt a0; omega)).mono ?_
  rintro e w11 ⟨rfl, hb⟩
  clear tYG0_0 tYG0_1 tYG0_2 tYG0_3
  replace B := Lib.hid (B.out.trans (hb.mono B.out.size))
  replace Wo0 := Lib.hid (Wo0.out.up hb (Nat.le_refl _))
  replace YW0 := Lib.hid (YW0.out.below hb YW0.out.lt)
  replace YG0 := Lib.hid (YG0.out.below hb YG0.out.lt)
  replace MGo0 := Lib.hid (MGo0.out.up hb (Nat.le_refl _))
  replace Ho0 := Lib.hid (Ho0.out.up hb (Nat.le_refl _))
  replace YH0 := Lib.hid (YH0.out.below hb YH0.out.lt)
  have zw11 : w10.heap.size ≤ w11.heap.size := hb.size
  clear hb
  go_wp2_with fail
  go_ret
  exact ⟨rfl, B.out⟩

end Go.Proofs.YtggpbekclegfoaaDoor
