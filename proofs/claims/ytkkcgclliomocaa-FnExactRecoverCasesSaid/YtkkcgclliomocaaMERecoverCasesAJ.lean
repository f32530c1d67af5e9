/-
  FnExactRecoverCases: texts joined: Begin, LoadS.
-/
import Derived.Test.YtkkcgclliomocaaMERecoverCasesAF
import Derived.Test.YtkkcgclliomocaaMERecoverCasesAH
import Derived.Test.YtkkcgclliomocaaMERecoverCasesAI
namespace Go.Proofs.Ytkkcgclliomocaa
open Go.RowKit

set_option maxHeartbeats 8000000 in
set_option maxRecDepth 8000 in
theorem l07Begin_any (s : ByteArray) (w : World) (hs : s.size ≤ 1048576) :
    Calls Try.prog 62 #[.string s] w fun e w' => ∃ v', e = .returned (.tuple #[v', .int .i64 (rcN s)]) ∧ OwnCs w.heap.size w'.heap.size w' v' (rcC s) ∧ Below w.heap.size w w' := by
  have hs' : s.size ≤ maxLen := by unfold maxLen; omega
  have HFAIL := Lib.hid (show specP s = none → rcN s = 0 ∧ rcC s = ICL from fun h => by
    have : accP s = none := by unfold accP; rw [h]; rfl
    unfold rcN rcC; rw [this]; exact ⟨rfl, rfl⟩)
  go_enter Try.func62, Try.ntmps62
  by_cases h5 : 5 ≤ s.size
  case neg =>
    have HN := Lib.hid (HFAIL.out (by unfold specP; rw [if_neg (by omega)]))
    go_wp2_with fail
    refine bodyPost_ret (v := .tuple #[.agg #[.string ⟨#[]⟩, .int .i64 0, .slice none 0 0, .slice none 0 0], .int .i64 0]) (by simp [results, Try.results62, go_sem, *]) rfl ?_
    refine ⟨_, by rw [HN.out.1]; rfl, by rw [HN.out.2]; exact ownCs_zero (by simp) (by simp), ?_⟩
    repeat' first | exact Below.refl _ _ | refine Below.setCell ?_ (by exact Nat.le_refl _) _ | refine Below.alloc ?_ (Nat.le_refl _) _
  have h4 : 4 < s.size := by omega
  obtain ⟨k, hk⟩ : ∃ k, s[4].toNat = k := ⟨_, rfl⟩
  have hk256 : k < 256 := by rw [← hk]; exact s[4].toNat_lt
  have HK4 := Lib.hid (show (byteAt s 4).toNat = k by rw [byteAt_get s 4 h4, hk]; rfl)
  go_upto_region 4 with fail
  rw [show (5 : Int) + (k : Int) = ((5 + k : Nat) : Int) by push_cast; rfl]
  obtain ⟨a, ha⟩ : ∃ a, a = 5 + k := ⟨_, rfl⟩
  rw [← ha]
  refine wp_at fun W0 hW0 => ?_
  have HB0 := Lib.hid (show Below w.heap.size w W0 by subst hW0; (repeat' first | exact Below.refl _ _ | assumption | refine Below.alloc ?_ ?_ _ | refine Below.setCell ?_ ?_ _ | refine Below.drew ?_ | (simp; done) | (simp; omega)))
  have KQ0 := Lib.hid (show Blk W0 w.heap.size 33 #[.string ⟨#[]⟩, .int .i64 0, .slice none 0 0, .slice none 0 0] by subst hW0; exact Blk.new w 33 #[.string ⟨#[]⟩, .int .i64 0, .slice none 0 0, .slice none 0 0])
  have hz0 : w.heap.size < W0.heap.size := by subst hW0; simp
  clear hW0 hk
  have HA5 := Lib.hid (show 5 + (byteAt s 4).toNat = a by rw [HK4.out, ha])
  have ha260 : a ≤ 260 ∧ 5 ≤ a := by omega
  clear ha
  by_cases hA : a + 3 ≤ s.size
  case neg =>
    have HN := Lib.hid (HFAIL.out (by unfold specP; rw [HA5.out, if_neg (by omega)]))
    have e0 : W0.cell? ⟨w.heap.size, 0, none⟩ = some (.string ⟨#[]⟩) := KQ0.out.cell 0 rfl
    have e1 : W0.cell? ⟨w.heap.size, 1, none⟩ = some (.int .i64 0) := KQ0.out.cell 1 rfl
    have e2 : W0.cell? ⟨w.heap.size, 2, none⟩ = some (.slice none 0 0) := KQ0.out.cell 2 rfl
    have e3 : W0.cell? ⟨w.heap.size, 3, none⟩ = some (.slice none 0 0) := KQ0.out.cell 3 rfl
    have g0 := KQ0.out.free 0
    have g1 := KQ0.out.free 1
    have g2 := KQ0.out.free 2
    have g3 := KQ0.out.free 3
    go_wp2_with fail
    refine bodyPost_ret (v := .tuple #[.agg #[.string ⟨#[]⟩, .int .i64 0, .slice none 0 0, .slice none 0 0], .int .i64 0]) (by simp [results, Try.results62, go_sem, *]) rfl ?_
    refine ⟨_, by rw [HN.out.1]; rfl, by rw [HN.out.2]; exact ownCs_zero (by have := HB0.out.size; simp; omega) (by have := HB0.out.size; simp; omega), ?_⟩
    repeat' first | exact HB0.out | refine Below.setCell ?_ (by exact Nat.le_refl _) _
  have hidx1 : ((a : Int) + 1).toNat = a + 1 := by omega
  have hidx2 : ((a : Int) + 2).toNat = a + 2 := by omega
  have ha0 : a < s.size := by omega
  have ha1 : a + 1 < s.size := by omega
  have ha2 : a + 2 < s.size := by omega
  have hi5 : (5 : Int) ≤ (a : Int) := by omega
  have hia : (a : Int) ≤ (s.size : Int) := by omega
  have hia2 : (a : Int) < (s.size : Int) := by omega
  have hia0 : (0 : Int) ≤ (a : Int) := by omega
  have HBA0 := Lib.hid (byteAt_get s a ha0)
  have HBA1 := Lib.hid (byteAt_get s (a + 1) ha1)
  have HBA2 := Lib.hid (byteAt_get s (a + 2) ha2)
  obtain ⟨x0, hx0⟩ : ∃ k, s[a].toNat = k := ⟨_, rfl⟩
  obtain ⟨x1, hx1⟩ : ∃ k, s[a + 1].toNat = k := ⟨_, rfl⟩
  obtain ⟨x2, hx2⟩ : ∃ k, s[a + 2].toNat = k := ⟨_, rfl⟩
  have HX0 := Lib.hid (show byteAt s a = (x0 : Int) by rw [HBA0.out, hx0])
  have HX1 := Lib.hid (show (byteAt s (a + 1)).toNat = x1 by rw [HBA1.out, hx1]; rfl)
  have HX2 := Lib.hid (show (byteAt s (a + 2)).toNat = x2 by rw [HBA2.out, hx2]; rfl)
  have h0b : x0 < 256 := by rw [← hx0]; exact s[a].toNat_lt
  have h1b : x1 < 256 := by rw [← hx1]; exact s[a + 1].toNat_lt
  have h2b : x2 < 256 := by rw [← hx2]; exact s[a + 2].toNat_lt
  have hw0 : IntKind.i64.wrap (x0 : Int) = (x0 : Int) := IntWalk.i64_in _ (by omega)
  go_wp2_with fail
  go_region_held3 (fun X => Below W0.heap.size W0 X)
    (first | exact Below.refl _ _ | exact (Below.refl _ _).drew | (repeat' first | exact Below.refl _ _ | refine Below.setCell ?_ (by simp) _ | refine Below.alloc ?_ (by simp) _ | refine Below.drew ?_))
    (first | fail)
  all_goals
    go_upto_region 10 with fail
    refine wp_at fun W1 hW1 => ?_
    have HC1 := Lib.hid (show Blk W1 W0.heap.size 33 #[.string (s.extract 5 a), .int .i64 x0, .slice none 0 0, .slice none 0 0] by subst hW1; exact Blk.new W0 33 #[.string (s.extract 5 a), .int .i64 x0, .slice none 0 0, .slice none 0 0])
    have hb1 := Lib.hid (show Below W0.heap.size W0 W1 by subst hW1; exact ((Below.refl _ _).alloc (Nat.le_refl _) _).drew)
    have hz1 : W0.heap.size < W1.heap.size := HC1.out.lt
    have HB1 := Lib.hid (HB0.out.trans (hb1.out.mono (by omega)))
    have KQ1 := Lib.hid (KQ0.out.below hb1.out hz0)
    clear hW1 hb1 hx0 hx1 hx2 HBA0 HBA1 HBA2 hidx1 hidx2
    rw [show (a : Int) + 3 = ((a + 3 : Nat) : Int) by push_cast; rfl, show (x1 : Int) + (x2 : Int) = ((x1 + x2 : Nat) : Int) by push_cast; rfl]
    obtain ⟨C, hC⟩ : ∃ C, C = W0.heap.size := ⟨_, rfl⟩
    obtain ⟨T, hT⟩ : ∃ T, T = x1 + x2 := ⟨_, rfl⟩
    obtain ⟨A3, hA3⟩ : ∃ A, A = a + 3 := ⟨_, rfl⟩
    rw [← hC, ← hT, ← hA3]
    rw [← hC] at HC1 hz1
    have hCw : w.heap.size < C := by omega
    have hT510 : T ≤ 510 := by omega
    have hA3s : A3 ≤ s.size := by omega
    have HSOME := Lib.hid (show ∀ r, clsAt s T A3 = some r → specP s = if r.2 + 2 ≤ s.size then some (⟨strOfNums (midL s 5 k), ⟨(x0 : Int), r.1.take x1⟩, r.1.drop x1⟩, r.2 + 2) else none from fun r h => by
      rw [hT, hA3] at h
      rw [specP_some HK4.out (by rw [← HK4.out]; exact HA5.out) hA HX1.out HX2.out h, HX0.out])
    have HNONE := Lib.hid (show clsAt s T A3 = none → specP s = none from fun h => by
      rw [hT, hA3] at h
      exact specP_none HK4.out (by rw [← HK4.out]; exact HA5.out) hA HX1.out HX2.out h)
    first | rw [show decide ((s.size : Int) < (A3 : Int)) = false from decide_eq_false (by omega)] | skip
    have HTT := Lib.hid hT
    clear hT hA3 hC hA ha0 ha1 ha2 hia hia2 hia0 hi5
    go_wp2_with fail
    go_loopw [4, 8] (fun av kv wr => ∃ (j p : Nat) (ls : List (List Int)) (v1 v2 : Value) (h1 l2 : Nat), kv = .int .i64 j ∧ j ≤ T ∧ av = .int .i64 p ∧ p ≤ s.size ∧ (j ≤ x1 → v2 = .slice none 0 0) ∧ W1.heap.size ≤ h1 ∧ h1 ≤ l2 ∧ l2 ≤ wr.heap.size ∧ Hid (clsAt s j A3 = some (ls, p)) ∧ Hid (Blk wr C 33 #[.string (s.extract 5 a), .int .i64 x0, v1, v2]) ∧ Hid (OwnL W1.heap.size h1 wr v1 (ls.take x1)) ∧ Hid (OwnL l2 wr.heap.size wr v2 (ls.drop x1)) ∧ Hid (Blk wr w.heap.size 33 #[.string ⟨#[]⟩, .int .i64 0, .slice none 0 0, .slice none 0 0]) ∧ Hid (Below w.heap.size w wr)) (fun _ kv _ => T - (intOf kv).toNat)
    case atStart =>
      have hnil : ∀ (l h : Nat) (W : World), OwnL l h W (.slice none 0 0) [] := fun l h W => by
        refine ⟨[], World.ownsRow_nil _ _ _ _, ?_, ?_⟩
        · intro g hg; cases hg
        · exact ⟨rfl, (by intro i u zs h; simp at h), (by intro i j u u' g _ h; simp at h)⟩
      exact ⟨0, A3, [], .slice none 0 0, .slice none 0 0, W1.heap.size, W1.heap.size, rfl, Nat.zero_le _, rfl, hA3s, fun _ => rfl, Nat.le_refl _, Nat.le_refl _, Nat.le_refl _, rfl, HC1, Lib.hid (by rw [List.take_nil]; exact hnil _ _ _), Lib.hid (by rw [List.drop_nil]; exact hnil _ _ _), KQ1, HB1⟩
    case round =>
      obtain ⟨j, p, ls, v1, v2, h1, l2, rfl, hj, rfl, hp, hv2, hh1, hh2, hh3, HCL, HCB, HO1, HO2, HKQ, HB⟩ := hrel
      by_cases hlt : j < T
      · have hjlI : (j : Int) < (T : Int) := by omega
        have hzw := HB.out.size
        have HCLN := Lib.hid (show clAt s p = none → specP s = none from fun h => HNONE.out (clsAt_none (j := j + 1) (by rw [clsAt_snoc, HCL.out]; simp [h]) (by omega)))
        have HCLS := Lib.hid (show ∀ c, clAt s p = some c → clsAt s (j + 1) A3 = some (ls ++ [c.1], c.2) from fun c h => by rw [clsAt_snoc, HCL.out]; simp [h])
        have HLL := Lib.hid (clsAt_len s j A3 _ HCL.out)
        by_cases hps : p < s.size
        case neg =>
          have HN := Lib.hid (HFAIL.out (HCLN.out (by unfold clAt; rw [if_neg (by omega)])))
          have e0 : wr.cell? ⟨w.heap.size, 0, none⟩ = some (.string ⟨#[]⟩) := HKQ.out.cell 0 rfl
          have g0 := HKQ.out.free 0
          have e1 : wr.cell? ⟨w.heap.size, 1, none⟩ = some (.int .i64 0) := HKQ.out.cell 1 rfl
          have g1 := HKQ.out.free 1
          have e2 : wr.cell? ⟨w.heap.size, 2, none⟩ = some (.slice none 0 0) := HKQ.out.cell 2 rfl
          have g2 := HKQ.out.free 2
          have e3 : wr.cell? ⟨w.heap.size, 3, none⟩ = some (.slice none 0 0) := HKQ.out.cell 3 rfl
          have g3 := HKQ.out.free 3
          go_wp2_with fail
          refine bodyPost_ret (v := .tuple #[.agg #[.string ⟨#[]⟩, .int .i64 0, .slice none 0 0, .slice none 0 0], .int .i64 0]) (by simp [results, Try.results62, go_sem, *]) rfl ?_
          refine ⟨_, by rw [HN.out.1]; rfl, by rw [HN.out.2]; exact ownCs_zero (by have := HB.out.size; simp; omega) (by have := HB.out.size; simp; omega), ?_⟩
          repeat' first | exact HB.out | refine Below.setCell ?_ (by exact Nat.le_refl _) _
        have HBY := Lib.hid (byteAt_get s p hps)
        obtain ⟨y, hy⟩ : ∃ k, s[p].toNat = k := ⟨_, rfl⟩
        have HYB := Lib.hid (show (byteAt s p).toNat = y by rw [HBY.out, hy]; rfl)
        have hyb : y < 256 := by rw [← hy]; exact s[p].toNat_lt
        have hpsI : (p : Int) < (s.size : Int) := by omega
        have hp0I : (0 : Int) ≤ (p : Int) := by omega
        by_cases hpy : p + 1 + y ≤ s.size
        case neg =>
          have HN := Lib.hid (HFAIL.out (HCLN.out (by unfold clAt; rw [HYB.out, if_neg (by omega)])))
          have e0 : wr.cell? ⟨w.heap.size, 0, none⟩ = some (.string ⟨#[]⟩) := HKQ.out.cell 0 rfl
          have g0 := HKQ.out.free 0
          have e1 : wr.cell? ⟨w.heap.size, 1, none⟩ = some (.int .i64 0) := HKQ.out.cell 1 rfl
          have g1 := HKQ.out.free 1
          have e2 : wr.cell? ⟨w.heap.size, 2, none⟩ = some (.slice none 0 0) := HKQ.out.cell 2 rfl
          have g2 := HKQ.out.free 2
          have e3 : wr.cell? ⟨w.heap.size, 3, none⟩ = some (.slice none 0 0) := HKQ.out.cell 3 rfl
          have g3 := HKQ.out.free 3
          go_wp2_with fail
          refine bodyPost_ret (v := .tuple #[.agg #[.string ⟨#[]⟩, .int .i64 0, .slice none 0 0, .slice none 0 0], .int .i64 0]) (by simp [results, Try.results62, go_sem, *]) rfl ?_
          refine ⟨_, by rw [HN.out.1]; rfl, by rw [HN.out.2]; exact ownCs_zero (by have := HB.out.size; simp; omega) (by have := HB.out.size; simp; omega), ?_⟩
          repeat' first | exact HB.out | refine Below.setCell ?_ (by exact Nat.le_refl _) _
        obtain ⟨c, hc⟩ : ∃ c, c = (midL s (p + 1) y).map sgn := ⟨_, rfl⟩
        have HCA := Lib.hid (show clAt s p = some (c, p + 1 + y) by unfold clAt; rw [HYB.out, if_pos ⟨by omega, hpy⟩, hc])
        have hcl : c.length = y := by rw [hc, List.length_map]; unfold midL; rw [List.length_take, List.length_drop, bytesOf_len]; omega
        have HCAT := Lib.hid (show ∀ m, m < y → ∀ h : p + 1 + m < s.size, c.take (m + 1) = c.take m ++ [sgn (s[p + 1 + m].toNat : Int)] from fun m hm h => by
          rw [List.take_add_one]
          congr 1
          rw [hc, List.getElem?_map]
          unfold midL
          rw [List.getElem?_take, if_pos hm, List.getElem?_drop, bytesOf_get s (p + 1 + m) h]
          rfl)
        have HCLEN := Lib.hid hcl
        clear hc hcl
        obtain ⟨wo, rfl⟩ : ∃ wo, wo = wr := ⟨wr, rfl⟩
        go_upto_region 16 with fail
        refine wp_at fun W2 hW2 => ?_
        have hb2 := Lib.hid (show Below wo.heap.size wo W2 by subst hW2; exact (Below.refl _ _).alloc (Nat.le_refl _) _)
        have HO0 := Lib.hid (show W2.ownsRow wo.heap.size 2 1 (.slice (some ⟨wo.heap.size, 0, none⟩) 0 0) 0 (([] : List Int).map I64) by subst hW2; exact owns_empty wo)
        have hz2 : wo.heap.size < W2.heap.size := by subst hW2; simp
        clear hW2
        go_wp2_with fail
        go_loopw [9, 10, 11] (fun ov iv xv wr => ∃ (m cap g : Nat), iv = .int .i64 ((p + 1 + m : Nat) : Int) ∧ m ≤ y ∧ ov = .slice (some ⟨g, 0, none⟩) m cap ∧ Hid (wr.ownsRow wo.heap.size 2 1 (.slice (some ⟨g, 0, none⟩) m cap) m ((c.take m).map I64)) ∧ Hid (Below wo.heap.size wo wr)) (fun _ iv _ _ => p + 1 + y - (intOf iv).toNat)
        case atStart => exact ⟨0, 0, wo.heap.size, by first | rfl | (congr 1), Nat.zero_le _, rfl, HO0, hb2⟩
        case round =>
          obtain ⟨m, cap, g, rfl, hm, rfl, HOR, HBR⟩ := hrel
          by_cases hmy : m < y
          · have hpm : p + 1 + m < s.size := by omega
            have HCT := Lib.hid (HCAT.out m hmy hpm)
            obtain ⟨jj, hjj⟩ : ∃ jj, jj = p + 1 + m := ⟨_, rfl⟩
            have hjs : jj < s.size := by omega
            have hjjl : (jj : Int) < (p : Int) + 1 + (y : Int) := by omega
            have hjjI : (jj : Int) < (s.size : Int) := by omega
            have hjj0 : (0 : Int) ≤ (jj : Int) := by omega
            have HSX := Lib.hid (show ∀ h : p + 1 + m < s.size, s[p + 1 + m] = s[jj] by subst hjj; intro _; rfl)
            rw [← hjj]
            have HJJ := Lib.hid hjj
            obtain ⟨x, hx⟩ : ∃ k, s[jj].toNat = k := ⟨_, rfl⟩
            have hxb : x < 256 := by rw [← hx]; exact s[jj].toNat_lt
            have HCT2 := Lib.hid (show c.take (m + 1) = c.take m ++ [sgn (x : Int)] by rw [HCT.out, HSX.out, hx])
            have hzr := HBR.out.size
            clear hjj
            by_cases hx128 : x < 128
            · have HV := Lib.hid (show sgn (x : Int) = x by unfold sgn; rw [if_pos (by omega)])
              go_wp2_with (at_builtin; refine app_own rfl _ _ rfl wo.heap.size ⟨g, 0, none⟩ m cap (c.take m) rfl (HOR.out.alloc _) _ [(x : Int)] rfl (slc_one wr _) (m + 1) (c.take (m + 1)) rfl (by rw [HCT2.out, HV.out]) (by omega) (by simp; omega) ?_; intro g8 cap8 w8 ho8 hb8 _)
              go_roundw
              case rel => exact ⟨m + 1, cap8, g8, by have := HJJ.out; go_num, by omega, rfl, ho8, HBR.out.trans (((Below.refl _ _).alloc (by omega) _).trans hb8)⟩
              case measure => have := HJJ.out; simp [intOf]; omega
            · have HV := Lib.hid (show sgn (x : Int) = (x : Int) - 256 by unfold sgn; rw [if_neg (by omega)])
              go_wp2_with (at_builtin; refine app_own rfl _ _ rfl wo.heap.size ⟨g, 0, none⟩ m cap (c.take m) rfl (HOR.out.alloc _) _ [(x : Int) - 256] rfl (slc_one wr _) (m + 1) (c.take (m + 1)) rfl (by rw [HCT2.out, HV.out]) (by omega) (by simp; omega) ?_; intro g8 cap8 w8 ho8 hb8 _)
              go_roundw
              case rel => exact ⟨m + 1, cap8, g8, by have := HJJ.out; go_num, by omega, rfl, ho8, HBR.out.trans (((Below.refl _ _).alloc (by omega) _).trans hb8)⟩
              case measure => have := HJJ.out; simp [intOf]; omega
          · obtain rfl : m = y := by omega
            have hzr := HBR.out.size
            have hnlt : ¬ (((p + 1 + m : Nat) : Int) < (p : Int) + 1 + (m : Int)) := by omega
            have HOC := Lib.hid (show OwnI wo.heap.size wr.heap.size wr (.slice (some ⟨g, 0, none⟩) m cap) c by
              have h := HOR.out
              rw [List.take_of_length_le (by rw [HCLEN.out]; exact Nat.le_refl _)] at h
              exact OwnI.mk h)
            have HB2 := Lib.hid (HB.out.trans (HBR.out.mono hzw))
            have HKQ2 := Lib.hid (HKQ.out.below HBR.out (by omega))
            have HCB2 := Lib.hid (HCB.out.below HBR.out (by omega))
            have HO12 := Lib.hid (HO1.out.up HBR.out (Nat.le_refl _))
            have HO22 := Lib.hid (HO2.out.up HBR.out (Nat.le_refl _))
            have HCS := Lib.hid (HCLS.out _ HCA.out)
            clear HOR HCAT
            by_cases hj1 : j < x1
            · have hj1I : (j : Int) < (x1 : Int) := by omega
              obtain rfl := hv2 (by omega)
              obtain ⟨vs, hown, hblk, heach⟩ := HO12.out
              have HTK := Lib.hid (show ls.take x1 = ls from List.take_of_length_le (by rw [HLL.out]; omega))
              rw [HTK.out] at hown heach
              rw [HLL.out] at hown
              obtain ⟨a1, c1, rfl⟩ := owns_shape hown
              have y2 : wr.cell? ⟨C, 2, none⟩ = some (.slice a1 j c1) := HCB2.out.cell 2 rfl
              have hal := (Below.refl wr.heap.size wr).alloc (Nat.le_refl _) (.cells #[.slice (some ⟨g, 0, none⟩) m cap] 65)
              have HU := Lib.hid (HOC.out.up hal (Nat.le_refl _))
              have HO5 := Lib.hid (owns_below hown hal (Nat.le_refl _))
              have HE5 := Lib.hid (heach.up hal (Nat.le_refl _))
              clear hown heach hblk hal
              go_wp2_with (at_builtin; refine app_list rfl _ _ rfl W1.heap.size (.slice a1 j c1) j vs rfl HO5.out _ (some ⟨g, 0, none⟩) m cap rfl (slc_list wr _ _ rfl) (by omega) (by simp; omega) ?_; intro oa2 oc2 w6 hown6 hbl6 hg6; have hb6' : Below W1.heap.size wr w6 := ((Below.refl _ _).alloc (by omega) _).trans hbl6; have y2' := (HCB2.out.below hb6' hz1).cell 2 rfl; have z2' := (HCB2.out.below hb6' hz1).free 2)
              have hz6 := hb6'.size
              have hkp : Kept (· = C) w6 (w6.setCell ⟨C, 2, none⟩ (.slice oa2 (j + 1) oc2)) := Kept.setCell (S := (· = C)) (p := ⟨C, 2, none⟩) (Kept.refl _ _) (.inr rfl) _
              have hws : (w6.setCell ⟨C, 2, none⟩ (.slice oa2 (j + 1) oc2)).heap.size = w6.heap.size := by simp [World.setCell]
              have HL1 := Lib.hid (show (ls ++ [c]).length = j + 1 by rw [List.length_append, HLL.out]; rfl)
              have HOWN := Lib.hid (show OwnL W1.heap.size w6.heap.size w6 (.slice oa2 (j + 1) oc2) (ls ++ [c]) from ⟨vs ++ [Value.slice (some ⟨g, 0, none⟩) m cap], by rw [HL1.out]; exact hown6, fun b hb => (owns_lt hown6 hb).2, OwnEach.snoc HO5.out HE5.out HU.out (by omega) (by omega) (by simp) (by simp; omega) hg6⟩)
              go_roundw
              case rel =>
                refine ⟨j + 1, p + 1 + m, ls ++ [c], .slice oa2 (j + 1) oc2, .slice none 0 0, w6.heap.size, w6.heap.size, by go_num, by omega, congrArg (Value.int IntKind.i64) (by push_cast; omega), hpy, fun _ => rfl, by omega, Nat.le_refl _, by rw [hws]; exact Nat.le_refl _, HCS, ?_, ?_, ?_, ?_, ?_⟩
                · exact Lib.hid ((HCB2.out.below hb6' hz1).set 2 _)
                · refine Lib.hid ?_
                  rw [List.take_of_length_le (by rw [HL1.out]; omega)]
                  exact HOWN.out.kept hkp (by rintro b p1 p2 rfl; omega)
                · refine Lib.hid ?_
                  rw [List.drop_eq_nil_of_le (by rw [HL1.out]; omega)]
                  refine ⟨[], World.ownsRow_nil _ _ _ _, ?_, ?_⟩
                  · intro b hb; cases hb
                  · exact ⟨rfl, (by intro i u zs h; simp at h), (by intro i j u u' g _ h; simp at h)⟩
                · exact Lib.hid ((HKQ2.out.below hb6' (by omega)).other (by show w.heap.size ≠ C; omega) _)
                · exact Lib.hid ((HB2.out.trans (hb6'.mono (by omega))).setCell (by show _ ≤ C; omega) _)
              case measure => simp [intOf]; omega
            · have hj1I : ¬ (j : Int) < (x1 : Int) := by omega
              obtain ⟨vs, hown, hblk, heach⟩ := HO22.out
              obtain ⟨n2, hn2⟩ : ∃ n2, n2 = (ls.drop x1).length := ⟨_, rfl⟩
              have hn2s : n2 ≤ 510 := by rw [hn2, List.length_drop, HLL.out]; omega
              rw [← hn2] at hown
              have HN2 := Lib.hid hn2
              clear hn2
              obtain ⟨a1, c1, rfl⟩ := owns_shape hown
              have y3 : wr.cell? ⟨C, 3, none⟩ = some (.slice a1 n2 c1) := HCB2.out.cell 3 rfl
              have hal := (Below.refl wr.heap.size wr).alloc (Nat.le_refl _) (.cells #[.slice (some ⟨g, 0, none⟩) m cap] 65)
              have HU := Lib.hid (HOC.out.up hal (Nat.le_refl _))
              have HO5 := Lib.hid (owns_below hown hal (Nat.le_refl _))
              have HE5 := Lib.hid (heach.up hal (Nat.le_refl _))
              clear hown heach hblk hal
              go_wp2_with (at_builtin; refine app_list rfl _ _ rfl l2 (.slice a1 n2 c1) n2 vs rfl HO5.out _ (some ⟨g, 0, none⟩) m cap rfl (slc_list wr _ _ rfl) (by omega) (by simp; omega) ?_; intro oa2 oc2 w6 hown6 hbl6 hg6; have hb6' : Below l2 wr w6 := ((Below.refl _ _).alloc (by omega) _).trans hbl6; have y3' := (HCB2.out.below hb6' (by omega)).cell 3 rfl; have z3' := (HCB2.out.below hb6' (by omega)).free 3)
              have hz6 := hb6'.size
              have hkp : Kept (· = C) w6 (w6.setCell ⟨C, 3, none⟩ (.slice oa2 (n2 + 1) oc2)) := Kept.setCell (S := (· = C)) (p := ⟨C, 3, none⟩) (Kept.refl _ _) (.inr rfl) _
              have hws : (w6.setCell ⟨C, 3, none⟩ (.slice oa2 (n2 + 1) oc2)).heap.size = w6.heap.size := by simp [World.setCell]
              have HL1 := Lib.hid (show (ls.drop x1 ++ [c]).length = n2 + 1 by rw [List.length_append, ← HN2.out]; rfl)
              have HOWN := Lib.hid (show OwnL l2 w6.heap.size w6 (.slice oa2 (n2 + 1) oc2) (ls.drop x1 ++ [c]) from ⟨vs ++ [Value.slice (some ⟨g, 0, none⟩) m cap], by rw [HL1.out]; exact hown6, fun b hb => (owns_lt hown6 hb).2, OwnEach.snoc HO5.out HE5.out HU.out (Nat.le_refl _) (by omega) (by simp) (by simp; omega) hg6⟩)
              have hkl : Kept (fun b => l2 ≤ b) wr w6 := ⟨hb6'.os, hb6'.tape, hb6'.output, hb6'.size, fun k _ hs => hb6'.block k (by omega)⟩
              go_roundw
              case rel =>
                refine ⟨j + 1, p + 1 + m, ls ++ [c], v1, .slice oa2 (n2 + 1) oc2, h1, l2, by go_num, by omega, congrArg (Value.int IntKind.i64) (by push_cast; omega), hpy, fun h => by omega, hh1, hh2, by rw [hws]; omega, HCS, ?_, ?_, ?_, ?_, ?_⟩
                · exact Lib.hid ((HCB2.out.below hb6' (by omega)).set 3 _)
                · refine Lib.hid ?_
                  rw [List.take_append_of_le_length (by rw [HLL.out]; omega)]
                  exact (HO12.out.kept hkl (by intro b p1 p2; omega)).kept hkp (by rintro b p1 p2 rfl; omega)
                · refine Lib.hid ?_
                  rw [List.drop_append_of_le_length (by rw [HLL.out]; omega), hws]
                  exact HOWN.out.kept hkp (by rintro b p1 p2 rfl; omega)
                · exact Lib.hid ((HKQ2.out.below hb6' (by omega)).other (by show w.heap.size ≠ C; omega) _)
                · exact Lib.hid ((HB2.out.trans (hb6'.mono (by omega))).setCell (by show _ ≤ C; omega) _)
              case measure => simp [intOf]; omega
      · obtain rfl : j = T := by omega
        have HSP := Lib.hid (HSOME.out _ HCL.out)
        have hzw := HB.out.size
        have hwp : IntKind.i64.wrap ((p : Int) + 2) = (p : Int) + 2 := IntWalk.i64_in _ (by omega)
        obtain ⟨a1, c1, rfl⟩ := HO1.out.rd.shape
        obtain ⟨a2, c2, rfl⟩ := HO2.out.rd.shape
        have HNM := Lib.hid (show strOfNums (midL s 5 k) = s.extract 5 a by
          have h := extract_mid s 5 k
          have h5a := HA5.out
          rw [HK4.out] at h5a
          rw [h5a] at h
          exact h.symm)
        rw [HNM.out] at HSP
        obtain ⟨K1, hK1⟩ : ∃ K, K = ls.take x1 := ⟨_, rfl⟩
        obtain ⟨K2, hK2⟩ : ∃ K, K = ls.drop x1 := ⟨_, rfl⟩
        rw [← hK1] at HO1 HCB HSP
        rw [← hK2] at HO2 HCB HSP
        clear hK1 hK2
        by_cases hend : p + 2 ≤ s.size
        case neg =>
          have HN := Lib.hid (HFAIL.out (by rw [HSP.out, if_neg hend]))
          have hendI : (s.size : Int) < (p : Int) + 2 := by omega
          go_wp2_with fail
          refine wp_region_cls (fun X => Hid (Below wr.heap.size wr X)) (by kernel_rfl) (by kernel_rfl) ((Below.refl _ _).drew) ?_
          repeat (first
            | go_big_quiet_skip
            | (go_big_quiet_want
               apply Exists.intro
               refine ⟨fun X hX => ?_, ?_⟩
               · (try dsimp only at hX)
                 go_simp
                 (first | with_reducible rfl | done | (fail))
               go_big_quiet_on
               (try simp only [Act.put, List.setIfInBounds_toArray, List.set_cons_zero, List.set_cons_succ])))
          refine wpQuiet_nil ?_
          intro wx hC
          (try dsimp only at hC)
          have HBx := Lib.hid (HB.out.trans (hC.out.mono hzw))
          have KQx := Lib.hid (HKQ.out.below hC.out HKQ.out.lt)
          have e0 : wx.cell? ⟨w.heap.size, 0, none⟩ = some (.string ⟨#[]⟩) := KQx.out.cell 0 rfl
          have g0 := KQx.out.free 0
          have e1 : wx.cell? ⟨w.heap.size, 1, none⟩ = some (.int .i64 0) := KQx.out.cell 1 rfl
          have g1 := KQx.out.free 1
          have e2 : wx.cell? ⟨w.heap.size, 2, none⟩ = some (.slice none 0 0) := KQx.out.cell 2 rfl
          have g2 := KQx.out.free 2
          have e3 : wx.cell? ⟨w.heap.size, 3, none⟩ = some (.slice none 0 0) := KQx.out.cell 3 rfl
          have g3 := KQx.out.free 3
          go_wp2_with fail
          refine bodyPost_ret (v := .tuple #[.agg #[.string ⟨#[]⟩, .int .i64 0, .slice none 0 0, .slice none 0 0], .int .i64 0]) (by simp [results, Try.results62, go_sem, *]) rfl ?_
          refine ⟨_, by rw [HN.out.1]; rfl, by rw [HN.out.2]; exact ownCs_zero (by have := HBx.out.size; simp; omega) (by have := HBx.out.size; simp; omega), ?_⟩
          repeat' first | exact HBx.out | refine Below.setCell ?_ (by exact Nat.le_refl _) _
        have HSP2 := Lib.hid (show specP s = some (⟨s.extract 5 a, ⟨(x0 : Int), K1⟩, K2⟩, p + 2) by rw [HSP.out, if_pos hend])
        have HF2 := Lib.hid (show accP s = none → rcN s = 0 ∧ rcC s = ICL from fun h => by unfold rcN rcC; rw [h]; exact ⟨rfl, rfl⟩)
        have HRC := Lib.hid (show RdCs wr (.agg #[.string (s.extract 5 a), .int .i64 x0, .slice a1 K1.length c1, .slice a2 K2.length c2]) ⟨s.extract 5 a, ⟨(x0 : Int), K1⟩, K2⟩ from ⟨_, _, rfl, ⟨_, rfl, HO1.out.rd⟩, HO2.out.rd, by
          show (s.extract 5 a).size ≤ maxLen
          rw [← HNM.out, strOfNums_size]; unfold midL maxLen; rw [List.length_take, List.length_drop, bytesOf_len]; omega⟩)
        have hendI : decide ((s.size : Int) < (p : Int) + 2) = false := decide_eq_false (by omega)
        have hend2 : (p : Int) + 2 ≤ (s.size : Int) := by omega
        have hend0 : (0 : Int) ≤ (p : Int) + 2 := by omega
        have hendT : ((p : Int) + 2).toNat = p + 2 := by omega
        obtain ⟨q2, hq2⟩ : ∃ q, caseB ⟨s.extract 5 a, ⟨(x0 : Int), K1⟩, K2⟩ = q := ⟨_, rfl⟩
        have HV := Lib.hid hq2
        clear hq2
        cases q2
        case false =>
          have HN := Lib.hid (HF2.out (by unfold accP; rw [HSP2.out]; simp only [Option.bind_some]; rw [if_neg (fun h => by have := h.1; rw [HV.out] at this; cases this)]))
          go_wp2_with fail
          refine wp_region_cls (fun X => Hid (Below wr.heap.size wr X)) (by kernel_rfl) (by kernel_rfl) ((Below.refl _ _).drew) ?_
          repeat (first
            | go_big_quiet_skip
            | (go_big_quiet_want
               apply Exists.intro
               refine ⟨fun X hX => ?_, ?_⟩
               · (try dsimp only at hX)
                 go_simp
                 (first | with_reducible rfl | done | (have hcur := hX; first | (go_at_call 112; refine (specCase_any C 0 ⟨s.extract 5 a, ⟨(x0 : Int), K1⟩, K2⟩ a1 a2 c1 c2 _ ((HCB.out.below hcur.out HCB.out.lt).cell 0 rfl) ((HCB.out.below hcur.out HCB.out.lt).cell 1 rfl) ((HCB.out.below hcur.out HCB.out.lt).cell 2 rfl) ((HCB.out.below hcur.out HCB.out.lt).cell 3 rfl) (HRC.out.up hcur.out (Nat.le_refl _))).mono ?_; rintro e w1 ⟨rfl, hb1⟩; rw [HV.out]; exact ⟨rfl, Lib.hid (hcur.out.trans (hb1.mono hcur.out.size))⟩)))
               go_big_quiet_on
               (try simp only [Act.put, List.setIfInBounds_toArray, List.set_cons_zero, List.set_cons_succ])))
          refine wpQuiet_nil ?_
          intro wx hC
          (try dsimp only at hC)
          have HBx := Lib.hid (HB.out.trans (hC.out.mono hzw))
          have KQx := Lib.hid (HKQ.out.below hC.out HKQ.out.lt)
          have e0 : wx.cell? ⟨w.heap.size, 0, none⟩ = some (.string ⟨#[]⟩) := KQx.out.cell 0 rfl
          have g0 := KQx.out.free 0
          have e1 : wx.cell? ⟨w.heap.size, 1, none⟩ = some (.int .i64 0) := KQx.out.cell 1 rfl
          have g1 := KQx.out.free 1
          have e2 : wx.cell? ⟨w.heap.size, 2, none⟩ = some (.slice none 0 0) := KQx.out.cell 2 rfl
          have g2 := KQx.out.free 2
          have e3 : wx.cell? ⟨w.heap.size, 3, none⟩ = some (.slice none 0 0) := KQx.out.cell 3 rfl
          have g3 := KQx.out.free 3
          go_wp2_with fail
          refine bodyPost_ret (v := .tuple #[.agg #[.string ⟨#[]⟩, .int .i64 0, .slice none 0 0, .slice none 0 0], .int .i64 0]) (by simp [results, Try.results62, go_sem, *]) rfl ?_
          refine ⟨_, by rw [HN.out.1]; rfl, by rw [HN.out.2]; exact ownCs_zero (by have := HBx.out.size; simp; omega) (by have := HBx.out.size; simp; omega), ?_⟩
          repeat' first | exact HBx.out | refine Below.setCell ?_ (by exact Nat.le_refl _) _
        by_cases heq : storeS ⟨s.extract 5 a, ⟨(x0 : Int), K1⟩, K2⟩ = preS s (p + 2)
        case neg =>
          have HN := Lib.hid (HF2.out (by unfold accP; rw [HSP2.out]; simp only [Option.bind_some]; rw [if_neg (fun h => heq h.2)]))
          have hne := str_ne (show storeS ⟨s.extract 5 a, ⟨(x0 : Int), K1⟩, K2⟩ ≠ s.extract 0 (p + 2) by rw [extract_pre]; exact heq)
          clear heq
          go_wp2_with fail
          refine wp_region_cls (fun X => Hid (Below wr.heap.size wr X)) (by kernel_rfl) (by kernel_rfl) ((Below.refl _ _).drew) ?_
          repeat (first
            | go_big_quiet_skip
            | (go_big_quiet_want
               apply Exists.intro
               refine ⟨fun X hX => ?_, ?_⟩
               · (try dsimp only at hX)
                 go_simp
                 (first | with_reducible rfl | done | (have hcur := hX; first | (go_at_call 112; refine (specCase_any C 0 ⟨s.extract 5 a, ⟨(x0 : Int), K1⟩, K2⟩ a1 a2 c1 c2 _ ((HCB.out.below hcur.out HCB.out.lt).cell 0 rfl) ((HCB.out.below hcur.out HCB.out.lt).cell 1 rfl) ((HCB.out.below hcur.out HCB.out.lt).cell 2 rfl) ((HCB.out.below hcur.out HCB.out.lt).cell 3 rfl) (HRC.out.up hcur.out (Nat.le_refl _))).mono ?_; rintro e w1 ⟨rfl, hb1⟩; rw [HV.out]; exact ⟨rfl, Lib.hid (hcur.out.trans (hb1.mono hcur.out.size))⟩) | (go_at_call 113; refine (l07Store_any C 0 ⟨s.extract 5 a, ⟨(x0 : Int), K1⟩, K2⟩ a1 a2 c1 c2 _ ((HCB.out.below hcur.out HCB.out.lt).cell 0 rfl) ((HCB.out.below hcur.out HCB.out.lt).cell 1 rfl) ((HCB.out.below hcur.out HCB.out.lt).cell 2 rfl) ((HCB.out.below hcur.out HCB.out.lt).cell 3 rfl) (HRC.out.up hcur.out (Nat.le_refl _)) HV.out).mono ?_; rintro e w1 ⟨rfl, hb1⟩; exact ⟨rfl, Lib.hid (hcur.out.trans (hb1.mono hcur.out.size))⟩)))
               go_big_quiet_on
               (try simp only [Act.put, List.setIfInBounds_toArray, List.set_cons_zero, List.set_cons_succ])))
          refine wpQuiet_nil ?_
          intro wx hC
          (try dsimp only at hC)
          have HBx := Lib.hid (HB.out.trans (hC.out.mono hzw))
          have KQx := Lib.hid (HKQ.out.below hC.out HKQ.out.lt)
          clear hne
          have e0 : wx.cell? ⟨w.heap.size, 0, none⟩ = some (.string ⟨#[]⟩) := KQx.out.cell 0 rfl
          have g0 := KQx.out.free 0
          have e1 : wx.cell? ⟨w.heap.size, 1, none⟩ = some (.int .i64 0) := KQx.out.cell 1 rfl
          have g1 := KQx.out.free 1
          have e2 : wx.cell? ⟨w.heap.size, 2, none⟩ = some (.slice none 0 0) := KQx.out.cell 2 rfl
          have g2 := KQx.out.free 2
          have e3 : wx.cell? ⟨w.heap.size, 3, none⟩ = some (.slice none 0 0) := KQx.out.cell 3 rfl
          have g3 := KQx.out.free 3
          go_wp2_with fail
          refine bodyPost_ret (v := .tuple #[.agg #[.string ⟨#[]⟩, .int .i64 0, .slice none 0 0, .slice none 0 0], .int .i64 0]) (by simp [results, Try.results62, go_sem, *]) rfl ?_
          refine ⟨_, by rw [HN.out.1]; rfl, by rw [HN.out.2]; exact ownCs_zero (by have := HBx.out.size; simp; omega) (by have := HBx.out.size; simp; omega), ?_⟩
          repeat' first | exact HBx.out | refine Below.setCell ?_ (by exact Nat.le_refl _) _
        have HEQ := Lib.hid (show storeS ⟨s.extract 5 a, ⟨(x0 : Int), K1⟩, K2⟩ = s.extract 0 (p + 2) by rw [extract_pre]; exact heq)
        have HN := Lib.hid (show rcN s = p + 2 ∧ rcC s = ⟨s.extract 5 a, ⟨(x0 : Int), K1⟩, K2⟩ by
          have : accP s = some (⟨s.extract 5 a, ⟨(x0 : Int), K1⟩, K2⟩, p + 2) := by unfold accP; rw [HSP2.out]; simp only [Option.bind_some]; rw [if_pos ⟨HV.out, heq⟩]
          unfold rcN rcC; rw [this]; exact ⟨rfl, rfl⟩)
        clear heq
        go_wp2_with fail
        refine wp_region_cls (fun X => Hid (Below wr.heap.size wr X)) (by kernel_rfl) (by kernel_rfl) ((Below.refl _ _).drew) ?_
        repeat (first
          | go_big_quiet_skip
          | (go_big_quiet_want
             apply Exists.intro
             refine ⟨fun X hX => ?_, ?_⟩
             · (try dsimp only at hX)
               go_simp
               (first | with_reducible rfl | done | (have hcur := hX; first | (go_at_call 112; refine (specCase_any C 0 ⟨s.extract 5 a, ⟨(x0 : Int), K1⟩, K2⟩ a1 a2 c1 c2 _ ((HCB.out.below hcur.out HCB.out.lt).cell 0 rfl) ((HCB.out.below hcur.out HCB.out.lt).cell 1 rfl) ((HCB.out.below hcur.out HCB.out.lt).cell 2 rfl) ((HCB.out.below hcur.out HCB.out.lt).cell 3 rfl) (HRC.out.up hcur.out (Nat.le_refl _))).mono ?_; rintro e w1 ⟨rfl, hb1⟩; rw [HV.out]; exact ⟨rfl, Lib.hid (hcur.out.trans (hb1.mono hcur.out.size))⟩) | (go_at_call 113; refine (l07Store_any C 0 ⟨s.extract 5 a, ⟨(x0 : Int), K1⟩, K2⟩ a1 a2 c1 c2 _ ((HCB.out.below hcur.out HCB.out.lt).cell 0 rfl) ((HCB.out.below hcur.out HCB.out.lt).cell 1 rfl) ((HCB.out.below hcur.out HCB.out.lt).cell 2 rfl) ((HCB.out.below hcur.out HCB.out.lt).cell 3 rfl) (HRC.out.up hcur.out (Nat.le_refl _)) HV.out).mono ?_; rintro e w1 ⟨rfl, hb1⟩; rw [HEQ.out]; exact ⟨rfl, Lib.hid (hcur.out.trans (hb1.mono hcur.out.size))⟩)))
             go_big_quiet_on
             (try simp only [Act.put, List.setIfInBounds_toArray, List.set_cons_zero, List.set_cons_succ])))
        refine wpQuiet_nil ?_
        intro wx hC
        (try dsimp only at hC)
        have HBx := Lib.hid (HB.out.trans (hC.out.mono hzw))
        have KQx := Lib.hid (HKQ.out.below hC.out HKQ.out.lt)
        have KCx := Lib.hid (HCB.out.below hC.out HCB.out.lt)
        have HO1x := Lib.hid (HO1.out.up hC.out (Nat.le_refl _))
        have HO2x := Lib.hid (HO2.out.up hC.out (Nat.le_refl _))
        have hzx := hC.out.size
        have y0 : wx.cell? ⟨C, 0, none⟩ = some (.string (s.extract 5 a)) := KCx.out.cell 0 rfl
        have y1 : wx.cell? ⟨C, 1, none⟩ = some (.int .i64 x0) := KCx.out.cell 1 rfl
        have y2 : wx.cell? ⟨C, 2, none⟩ = some (.slice a1 K1.length c1) := KCx.out.cell 2 rfl
        have y3 : wx.cell? ⟨C, 3, none⟩ = some (.slice a2 K2.length c2) := KCx.out.cell 3 rfl
        have e0 : wx.cell? ⟨w.heap.size, 0, none⟩ = some (.string ⟨#[]⟩) := KQx.out.cell 0 rfl
        have g0 := KQx.out.free 0
        have e1 : wx.cell? ⟨w.heap.size, 1, none⟩ = some (.int .i64 0) := KQx.out.cell 1 rfl
        have g1 := KQx.out.free 1
        have e2 : wx.cell? ⟨w.heap.size, 2, none⟩ = some (.slice none 0 0) := KQx.out.cell 2 rfl
        have g2 := KQx.out.free 2
        have e3 : wx.cell? ⟨w.heap.size, 3, none⟩ = some (.slice none 0 0) := KQx.out.cell 3 rfl
        have g3 := KQx.out.free 3
        have FIN := Lib.hid (show ∀ Wf, Kept (· = w.heap.size) wx Wf → ∃ v', Ending.returned (.tuple #[.agg #[.string (s.extract 5 a), .int .i64 x0, .slice a1 K1.length c1, .slice a2 K2.length c2], .int .i64 ((p : Int) + 2)]) = .returned (.tuple #[v', .int .i64 (rcN s)]) ∧ OwnCs w.heap.size Wf.heap.size Wf v' (rcC s) ∧ Below w.heap.size w Wf from fun Wf hK => by
          have hzf := hK.size
          have ho1 := HO1x.out.kept hK (by rintro b h1 h2 rfl; omega)
          have ho2 := HO2x.out.kept hK (by rintro b h1 h2 rfl; omega)
          have hp := HRC.out.parts.2.2
          refine ⟨_, by rw [HN.out.1]; push_cast; rfl, ?_, HBx.out.trans (hK.toBelow HBx.out.size (by rintro k h1 rfl; omega))⟩
          rw [HN.out.2]
          exact ⟨_, _, W1.heap.size, h1, l2, wr.heap.size, rfl, ⟨_, W1.heap.size, h1, rfl, ho1, Nat.le_refl _, hh1, Nat.le_refl _, by omega⟩, ho2, hp, by omega, hh1, hh2, hh3, by omega, by omega⟩)
        go_wp2_with fail
        refine bodyPost_ret (v := .tuple #[.agg #[.string (s.extract 5 a), .int .i64 x0, .slice a1 K1.length c1, .slice a2 K2.length c2], .int .i64 ((p : Int) + 2)]) (by simp [results, Try.results62, go_sem, *]) rfl ?_
        refine FIN.out _ ?_
        repeat' first | exact Kept.refl _ _ | refine Kept.setCell ?_ (.inr (by simp)) _ | refine Kept.drew ?_

end Go.Proofs.Ytkkcgclliomocaa

namespace Go.Proofs.Ytkkcgclliomocaa
open Go.RowKit

set_option maxHeartbeats 2000000 in
set_option maxRecDepth 4000 in
theorem specLoad_any (s : ByteArray) (w : World) (hs : s.size ≤ 1048576) :
    Calls Try.prog 18 #[.string s] w fun e w' => ∃ v', e = .returned (.tuple #[v', .bool (ldB s)]) ∧ OwnCs w.heap.size w'.heap.size w' v' (ldC s) ∧ Below w.heap.size w w' := by
  have HS := Lib.hid hs
  clear hs
  go_enter Try.func18, Try.ntmps18
  go_wp2_with fail
  refine Calls.at fun W0 hW0 => ?_
  have HB0 := Lib.hid (show Below w.heap.size w W0 by subst hW0; (repeat' first | exact Below.refl _ _ | assumption | refine Below.alloc ?_ ?_ _ | refine Below.setCell ?_ ?_ _ | refine Below.drew ?_ | (simp; done) | (simp; omega)))
  have KQ0 := Lib.hid (show Blk W0 w.heap.size 33 #[.string ⟨#[]⟩, .int .i64 0, .slice none 0 0, .slice none 0 0] by subst hW0; exact Blk.new w 33 #[.string ⟨#[]⟩, .int .i64 0, .slice none 0 0, .slice none 0 0])
  have hz0 : w.heap.size < W0.heap.size := KQ0.out.lt
  clear hW0
  refine (l07Begin_any s W0 HS.out).mono ?_
  rintro e w1 ⟨v', rfl, ho, hb⟩
  obtain ⟨a1, c1, a2, c2, rfl⟩ := ho.rd.shape
  have HO := Lib.hid ho
  have HB := Lib.hid (HB0.out.trans (hb.mono (Nat.le_of_lt hz0)))
  have KQ := Lib.hid (KQ0.out.below hb hz0)
  have hzw := HB.out.size
  have hw1 : w.heap.size < w1.heap.size := KQ.out.lt
  have hz01 : W0.heap.size ≤ w1.heap.size := hb.size
  obtain ⟨n, hn⟩ : ∃ n, n = rcN s := ⟨_, rfl⟩
  have hnle : n ≤ 1048576 := by rw [hn]; exact Nat.le_trans (rcN_le s) HS.out
  obtain ⟨N, hN⟩ : ∃ N, N = s.size := ⟨_, rfl⟩
  have HOK := Lib.hid (show ldB s = (decide (n ≠ 0) && decide (n = N)) by unfold ldB; rw [rcOk_iff, ← hn, hN])
  rw [← hn]
  obtain ⟨d, hd⟩ : ∃ d, d = rcC s := ⟨_, rfl⟩
  rw [← hd] at HO ⊢
  have HD := Lib.hid (show ldC s = if ldB s = true then d else ICL by unfold ldC; rw [hd])
  have HNN := Lib.hid hN
  clear hb ho hn hd hN
  go_upto_region 2 with fail
  refine wp_at fun W2 hW2 => ?_
  have HK2 := Lib.hid (show Blk W2 w1.heap.size 33 #[.string d.name, .int .i64 d.form.letters, .slice a1 d.form.clauses.length c1, .slice a2 d.proof.length c2] by
    subst hW2; first | exact Blk.new _ _ _ | simpa using ((((Blk.new w1 33 #[.string ⟨#[]⟩, .int .i64 0, .slice none 0 0, .slice none 0 0]).set 0 (.string d.name)).set 1 (.int .i64 d.form.letters)).set 2 (.slice a1 d.form.clauses.length c1)).set 3 (.slice a2 d.proof.length c2))
  have hb2 := Lib.hid (show Below w1.heap.size w1 W2 by subst hW2; first | (repeat' first | exact Below.refl _ _ | assumption | refine Below.alloc ?_ ?_ _ | refine Below.setCell ?_ ?_ _ | refine Below.drew ?_ | (simp; done) | (simp; omega)) | (repeat' first | exact Below.refl _ _ | refine Below.setCell ?_ (by exact Nat.le_refl _) _ | refine Below.alloc ?_ (Nat.le_refl _) _))
  clear hW2
  have HO2 := Lib.hid (HO.out.up hb2.out (Nat.le_refl _))
  have HB2 := Lib.hid (HB.out.trans (hb2.out.mono hzw))
  have KQ2 := Lib.hid (KQ.out.below hb2.out hw1)
  have hz2 := hb2.out.size
  have e0 : W2.cell? ⟨w.heap.size, 0, none⟩ = some (.string ⟨#[]⟩) := KQ2.out.cell 0 rfl
  have g0 := KQ2.out.free 0
  have e1 : W2.cell? ⟨w.heap.size, 1, none⟩ = some (.int .i64 0) := KQ2.out.cell 1 rfl
  have g1 := KQ2.out.free 1
  have e2 : W2.cell? ⟨w.heap.size, 2, none⟩ = some (.slice none 0 0) := KQ2.out.cell 2 rfl
  have g2 := KQ2.out.free 2
  have e3 : W2.cell? ⟨w.heap.size, 3, none⟩ = some (.slice none 0 0) := KQ2.out.cell 3 rfl
  have g3 := KQ2.out.free 3
  have y0 : W2.cell? ⟨w1.heap.size, 0, none⟩ = some (.string d.name) := HK2.out.cell 0 rfl
  have y1 : W2.cell? ⟨w1.heap.size, 1, none⟩ = some (.int .i64 d.form.letters) := HK2.out.cell 1 rfl
  have y2 : W2.cell? ⟨w1.heap.size, 2, none⟩ = some (.slice a1 d.form.clauses.length c1) := HK2.out.cell 2 rfl
  have y3 : W2.cell? ⟨w1.heap.size, 3, none⟩ = some (.slice a2 d.proof.length c2) := HK2.out.cell 3 rfl
  have FNO := Lib.hid (show ldB s = false → ∀ Wf, Kept (· = w.heap.size) W2 Wf → ∃ v', Ending.returned (.tuple #[.agg #[.string ⟨#[]⟩, .int .i64 0, .slice none 0 0, .slice none 0 0], .bool false]) = .returned (.tuple #[v', .bool (ldB s)]) ∧ OwnCs w.heap.size Wf.heap.size Wf v' (ldC s) ∧ Below w.heap.size w Wf from fun hf Wf hK => by
    have hzf := hK.size
    refine ⟨_, by rw [hf], ?_, HB2.out.trans (hK.toBelow HB2.out.size (by rintro k h1 rfl; omega))⟩
    rw [HD.out, hf, if_neg (by decide)]
    exact ownCs_zero (by omega) (by omega))
  have FYES := Lib.hid (show ldB s = true → ∀ Wf, Kept (· = w.heap.size) W2 Wf → ∃ v', Ending.returned (.tuple #[.agg #[.string d.name, .int .i64 d.form.letters, .slice a1 d.form.clauses.length c1, .slice a2 d.proof.length c2], .bool true]) = .returned (.tuple #[v', .bool (ldB s)]) ∧ OwnCs w.heap.size Wf.heap.size Wf v' (ldC s) ∧ Below w.heap.size w Wf from fun hf Wf hK => by
    have hzf := hK.size
    refine ⟨_, by rw [hf], ?_, HB2.out.trans (hK.toBelow HB2.out.size (by rintro k h1 rfl; omega))⟩
    rw [HD.out, hf, if_pos rfl]
    exact (HO2.out.kept hK (by rintro b h1 h2 rfl; omega)).wide (by omega) (by omega))
  clear HO HB KQ hzw hz0
  rw [HOK.out] at FNO FYES
  have hNI : s.size = N := HNN.out.symm
  by_cases hok : n = 0
  case pos =>
    subst hok
    have F := Lib.hid (FNO.out rfl)
    clear FNO FYES
    go_wp2_with fail
    refine bodyPost_ret (v := .tuple #[.agg #[.string ⟨#[]⟩, .int .i64 0, .slice none 0 0, .slice none 0 0], .bool false]) (by simp [results, Try.results18, go_sem, *]) rfl ?_
    rw [HOK.out]
    refine F.out _ ?_
    repeat' first | exact Kept.refl _ _ | refine Kept.setCell ?_ (.inr (by simp)) _
  have hokb : decide (n ≠ 0) = true := decide_eq_true hok
  rw [hokb] at HOK FNO FYES
  have hn0 : ((n : Int) == 0) = false := by simp; omega
  have hn0' : ¬ (n : Int) = 0 := by omega
  clear hok hokb
  by_cases hnn : n = N
  case neg =>
    have F := Lib.hid (FNO.out (by rw [decide_eq_false hnn]; rfl))
    have hne : ((n : Int) != (N : Int)) = true := by simp; omega
    have HNE := Lib.hid hnn
    clear FNO FYES hnn
    go_wp2_with fail
    refine bodyPost_ret (v := .tuple #[.agg #[.string ⟨#[]⟩, .int .i64 0, .slice none 0 0, .slice none 0 0], .bool false]) (by simp [results, Try.results18, go_sem, *]) rfl ?_
    rw [HOK.out]
    refine F.out _ ?_
    repeat' first | exact Kept.refl _ _ | refine Kept.setCell ?_ (.inr (by simp)) _
  have F := Lib.hid (FYES.out (by rw [decide_eq_true hnn]; rfl))
  have hne : ((n : Int) != (N : Int)) = false := by simp; omega
  have HNE := Lib.hid hnn
  clear FNO FYES hnn
  go_wp2_with fail
  refine bodyPost_ret (v := .tuple #[.agg #[.string d.name, .int .i64 d.form.letters, .slice a1 d.form.clauses.length c1, .slice a2 d.proof.length c2], .bool true]) (by simp [results, Try.results18, go_sem, *]) rfl ?_
  rw [HOK.out]
  refine F.out _ ?_
  repeat' first | exact Kept.refl _ _ | refine Kept.setCell ?_ (.inr (by simp)) _

end Go.Proofs.Ytkkcgclliomocaa
