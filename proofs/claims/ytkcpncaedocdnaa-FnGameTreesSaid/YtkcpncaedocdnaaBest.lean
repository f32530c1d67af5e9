/-
  Trees: the best way.
-/
import Derived.Test.YtkcpncaedocdnaaWayM
import Derived.Test.YtkcpncaedocdnaaWorthR
namespace Go.Proofs.Ytkcpncaedocdnaa
open Go.RowKit

def wayI (P V : List Int) (W : Int) (f i : Nat) (e : Bool) : List Int := (wayT P V W f i e).map fun (k : Nat) => (k : Int)
theorem bestW_eq {t : List Int × List Int} (h : validT t = true) : bestW t = worthT t.1 t.2 t.1.length 0 true := if_pos h
theorem bestL_eq {t : List Int × List Int} (h : validT t = true) : bestL t = wayI t.1 t.2 (worthT t.1 t.2 t.1.length 0 true) t.1.length 0 true := if_pos h

def lenV : Value → Nat
  | .slice _ n _ => n
  | _ => 0
theorem owns_one (w : World) (z : Int) : (w.alloc (.cells #[.int .i64 z] 2)).ownsRow w.heap.size 2 1 (.slice (some ⟨w.heap.size, 0, none⟩) 1 1) 1 ([z].map I64) :=
  World.ownsRow_lit (base := w.heap.size) (e := 2) (size := 1) w #[.int .i64 z] 1 (Nat.le_refl _) (by simp [maxLen]) rfl
theorem wayI_step {P V : List Int} {W : Int} {f i k : Nat} {e : Bool} (h : (kids P i).find? (fun k => worthT P V f k (!e) == W) = some k) : wayI P V W (f + 1) i e = (i : Int) :: wayI P V W f k (!e) := by
  rw [wayI, wayT_step h]; rfl
theorem wayI_end {P V : List Int} {W : Int} {f i : Nat} {e : Bool} (h : kids P i = []) : wayI P V W f i e = [(i : Int)] := by
  rw [wayI, wayT_end h]; rfl

set_option maxHeartbeats 4000000 in
set_option maxRecDepth 4000 in
theorem implBest_any (v : Value) (t : List Int × List Int) (w : World) (h : RdT w v t) :
    Calls Try.prog 41 #[v] w fun e w' => ∃ v', e = .returned (.tuple #[.int .i64 (bestW t), v', .bool (validT t)]) ∧ OwnI w.heap.size w'.heap.size w' v' (bestL t) ∧ Below w.heap.size w w' := by
  obtain ⟨p, q⟩ := t
  obtain ⟨a, c, a', c', rfl⟩ := h.shape
  simp only at h ⊢
  have HP := Lib.hid h
  clear h
  go_enter Try.func41, Try.ntmps41
  go_wp2_with fail
  refine Calls.at fun W hW => ?_
  have hb := Lib.hid (show Below w.heap.size w W by subst hW; (repeat' first | exact Below.refl _ _ | assumption | refine Below.alloc ?_ ?_ _ | refine Below.setCell ?_ ?_ _ | refine Below.drew ?_ | (simp; done) | (simp; omega)))
  have hk := Lib.hid (show Blk W w.heap.size 28 #[.slice a p.length c, .slice a' q.length c'] by subst hW; exact Blk.new _ _ _)
  clear hW
  refine (implValidTree_o _ (p, q) W (HP.out.up hb.out (Nat.le_refl _))).mono ?_
  rintro e w1 ⟨rfl, hb1⟩
  have HB1 := Lib.hid (hb.out.trans (hb1.mono hb.out.size))
  have HK1 := Lib.hid (hk.out.below hb1 hk.out.lt)
  clear hb1 hb hk
  by_cases hv : validT (p, q) = true
  · rw [hv]
    have HV := Lib.hid (validT_iff.1 hv)
    have HVV := Lib.hid hv
    have hl64 := HV.out.2.1
    have hl1 := HV.out.1
    have HGP := Lib.hid HV.out.goodP
    simp only at hl64 hl1 HGP
    have HBW := Lib.hid (bestW_eq hv)
    have HBLL := Lib.hid (bestL_eq hv)
    simp only at HBW HBLL
    have t0 : w1.cell? ⟨w.heap.size, 0, none⟩ = some (.slice a p.length c) := HK1.out.cell 0 rfl
    have t1 : w1.cell? ⟨w.heap.size, 1, none⟩ = some (.slice a' q.length c') := HK1.out.cell 1 rfl
    clear hv
    go_wp2_with fail
    refine (worth_any (p, q) HV.out p.length 0 true _ w1 (by simp only; omega) (by simp only; omega) (HP.out.up HB1.out (Nat.le_refl _))).mono ?_
    rintro e w2 ⟨rfl, hb2⟩
    simp only
    obtain ⟨W0, hW0⟩ : ∃ W0, W0 = worthT p q p.length 0 true := ⟨_, rfl⟩
    rw [← hW0] at HBW HBLL ⊢
    have HW0 := Lib.hid hW0
    have HB2 := Lib.hid (HB1.out.trans (hb2.mono HB1.out.size))
    have HK2 := Lib.hid (HK1.out.below hb2 HK1.out.lt)
    clear hb2 hW0 t0 t1
    go_wp2_with fail
    go_loopw [6, 7] (fun way ev wr => ∃ (f i : Nat) (e : Bool) (pre : List Int) (b : Option Addr) (cap : Nat), way = .slice b (pre.length + 1) cap ∧ ev = .bool e ∧ i < p.length ∧ p.length ≤ i + f ∧ pre.length ≤ i ∧ Hid (worthT p q f i e = W0) ∧ Hid (wayI p q W0 p.length 0 true = pre ++ wayI p q W0 f i e) ∧ wr.ownsRow w2.heap.size 2 1 (.slice b (pre.length + 1) cap) (pre.length + 1) ((pre ++ [(i : Int)]).map I64) ∧ Below w.heap.size w wr ∧ Below w2.heap.size w2 wr) (fun way _ _ => 65 - lenV way)
    case atStart => exact ⟨p.length, 0, true, [], _, _, rfl, rfl, by omega, by omega, Nat.zero_le _, HW0.out.symm, rfl, owns_one w2 0, HB2.out.alloc HB2.out.size _, (Below.refl _ _).alloc (Nat.le_refl _) _⟩
    case round =>
      obtain ⟨f, i, e, pre, b, cap, rfl, rfl, hi, hf, hpi, hw0, hway, hown, hbl, hbl2⟩ := hrel
      have HO := Lib.hid hown
      have HB := Lib.hid hbl
      have HBL := Lib.hid hbl2
      have HKr := Lib.hid (HK2.out.below hbl2 HK2.out.lt)
      have hc0 := (slc_of_owns hown).at (i := pre.length) (u := .int .i64 i) (by simp [I64])
      obtain ⟨kb, ko, rfl, _, hc⟩ := hc0
      have t0 : wr.cell? ⟨w.heap.size, 0, none⟩ = some (.slice a p.length c) := HKr.out.cell 0 rfl
      have t1 : wr.cell? ⟨w.heap.size, 1, none⟩ = some (.slice a' q.length c') := HKr.out.cell 1 rfl
      clear hown hbl hbl2
      obtain ⟨m, hm⟩ : ∃ m, m = pre.length := ⟨_, rfl⟩
      rw [← hm] at HO hpi hc ⊢
      have HM := Lib.hid hm
      clear hm
      obtain ⟨n, hn⟩ : ∃ n, n = m + 1 := ⟨_, rfl⟩
      rw [← hn] at HO ⊢
      have i1 : IntKind.i64.wrap ((n : Int) - 1) = m := by rw [IntWalk.i64_in _ (by omega)]; omega
      have i2 : (0 : Int) ≤ m := by omega
      have i3 : (m : Int) < n := by omega
      have HN := Lib.hid hn
      clear hn
      go_wp2_with fail
      go_region_held3 (fun w' => w'.cell? ⟨w.heap.size, 0, none⟩ = some (.slice a p.length c) ∧ w'.cell? ⟨w.heap.size, 1, none⟩ = some (.slice a' q.length c') ∧ w'.cell? ⟨kb, ko + m, none⟩ = some (.int .i64 i) ∧ Below wr.heap.size wr w')
        (first | exact ⟨held_of hbn t0 (Nat.le_refl _), held_of hbn t1 (Nat.le_refl _), held_of hbn hc (Nat.le_refl _), hbn⟩ | exact ⟨t0, t1, hc, (Below.refl _ _).drew⟩)
        (first | (go_at_call 77; have hh := (‹_ ∧ _ ∧ _ ∧ Below wr.heap.size wr _›).2.2.2; refine (children_any _ (p, q) i _ ((HP.out.up HB.out (Nat.le_refl _)).up hh (Nat.le_refl _)) hl64).mono ?_; rintro e w3 ⟨v3, rfl, ho3, hb3⟩; have hbn := hh.trans (hb3.mono hh.size)))
      have HB3 := Lib.hid (HB.out.trans (hbn.mono HB.out.size))
      have HBL3 := Lib.hid (HBL.out.trans (hbn.mono HBL.out.size))
      have HO3 := Lib.hid (owns_below HO.out hbn (Nat.le_refl _))
      obtain ⟨a3, c3, rfl⟩ := ho3.rd.shape
      have HR3 := Lib.hid ho3.rd
      clear hb3 hh ho3 t0 t1 hc hbn
      rw [kidsI_full_len] at *
      have hkl : (kids p i).length ≤ 64 := Nat.le_trans (kidsTo_len p i p.length) hl64
      by_cases hkn : kids p i = []
      · have hl0 : (((kids p i).length : Int) == 0) = true := by rw [hkn]; rfl
        have HE := Lib.hid (wayI_end (P := p) (V := q) (W := W0) (f := f) (i := i) (e := e) hkn)
        clear hkn
        go_wp2_with fail
        go_ret3
        refine ⟨.slice (some ⟨kb, ko, none⟩) n cap, by rw [HVV.out, HBW.out]; rfl, ?_, HB3.out⟩
        rw [HBLL.out, hway.out, HE.out]
        have e1 : (pre ++ [(i : Int)]).length = n := by rw [HN.out, HM.out]; simp
        exact OwnI.wide (lo := w2.heap.size) (hi := w3.heap.size) ⟨by rw [e1]; exact HO3.out, fun g hg => (owns_lt HO3.out hg).2⟩ HB2.out.size (Nat.le_refl _)
      · have hlk : 0 < (kids p i).length := by
          rcases Nat.eq_zero_or_pos (kids p i).length with h | h
          · exact absurd (List.length_eq_zero_iff.1 h) hkn
          · exact h
        have hl0 : (((kids p i).length : Int) == 0) = false := by rw [beq_eq_false_iff_ne]; omega
        have HKN := Lib.hid hkn
        obtain ⟨g, rfl⟩ : ∃ g, f = g + 1 := ⟨f - 1, by omega⟩
        have HNO := Lib.hid (way_some hkn hw0.out)
        clear hkn
        go_wp2_with fail
        go_loopw [6, 34] (fun way kk wi => ∃ j : Nat, way = .slice (some ⟨kb, ko, none⟩) n cap ∧ kk = .int .i64 j ∧ j ≤ (kids p i).length ∧ Hid (∀ j', j' < j → (worthT p q g ((kids p i).getD j' 0) (!e) == W0) = false) ∧ Below w3.heap.size w3 wi) (fun _ kk _ => (kids p i).length - (intOf kk).toNat)
        case atStart => exact ⟨0, rfl, rfl, Nat.zero_le _, fun j' hj => by omega, Below.refl _ _⟩
        case round =>
          obtain ⟨j, rfl, rfl, hj, hno, hbi⟩ := hrel
          have HBi := Lib.hid hbi
          have HB4 := Lib.hid (HB3.out.trans (hbi.mono HB3.out.size))
          have HBL4 := Lib.hid (HBL3.out.trans (hbi.mono HBL3.out.size))
          have HKi := Lib.hid (HK2.out.below HBL4.out HK2.out.lt)
          clear hbi
          by_cases hlt : j < (kids p i).length
          · have t0 : wr.cell? ⟨w.heap.size, 0, none⟩ = some (.slice a p.length c) := HKi.out.cell 0 rfl
            have t1 : wr.cell? ⟨w.heap.size, 1, none⟩ = some (.slice a' q.length c') := HKi.out.cell 1 rfl
            obtain ⟨jb, jo, rfl, _, hc⟩ := (HR3.out.up HBi.out (Nat.le_refl _)).at (i := j) (by rw [kidsI_full_len]; exact hlt)
            rw [kidsI_at hlt] at hc
            obtain ⟨k, hk⟩ : ∃ k, k = (kids p i).getD j 0 := ⟨_, rfl⟩
            rw [← hk] at hc
            have hkg := kid_gt HGP.out (kid_mem (P := p) (i := i) hlt)
            rw [← hk] at hkg
            obtain ⟨hg1, hg2⟩ := hkg
            have HKJ := Lib.hid hk
            clear hk
            go_wp2_with fail
            refine (worth_any (p, q) HV.out g k (!e) _ wr hg2 (by simp only; omega) (HP.out.up HB4.out (Nat.le_refl _))).mono ?_
            rintro e4 w4 ⟨rfl, hb4⟩
            have HB5 := Lib.hid (HB4.out.trans (hb4.mono HB4.out.size))
            have HBL5 := Lib.hid (HBL4.out.trans (hb4.mono HBL4.out.size))
            have HBi5 := Lib.hid (HBi.out.trans (hb4.mono HBi.out.size))
            have HO5 := Lib.hid (owns_below (owns_below HO3.out HBi.out (Nat.le_refl _)) hb4 (Nat.le_refl _))
            clear hb4 t0 t1 hc
            simp only
            by_cases hm : worthT p q g k (!e) = W0
            · have hme : (worthT p q g k (!e) == W0) = true := by simp [hm]
              have HS := Lib.hid (wayI_step (find_at (fun k => worthT p q g k (!e) == W0) 0 (kids p i) j hlt hno.out (by rw [← HKJ.out]; exact hme)))
              rw [← HKJ.out] at HS
              have HMM := Lib.hid hm
              obtain ⟨wk, hwk⟩ : ∃ x, x = worthT p q g k (!e) := ⟨_, rfl⟩
              rw [← hwk] at hme ⊢
              clear hm hwk
              have hsz5 := HBL5.out.size
              have hn64 : n ≤ 64 := by have := HN.out; omega
              go_wp2_with (at_builtin; refine app_ints rfl _ _ rfl w2.heap.size (.slice (some ⟨kb, ko, none⟩) n cap) n (pre ++ [(i : Int)]) rfl (HO5.out.alloc _) _ [(k : Int)] rfl (slc_one _ _) (n + 1) (pre ++ [(i : Int)] ++ [(k : Int)]) (by simp) rfl (by omega) (by simp; omega) ?_; intro b2 cap2 w6 hown2 hbl2 _ _)
              go_roundw
              case rel =>
                have e2 : Below w2.heap.size w4 w6 := ((Below.refl _ _).alloc HBL5.out.size _).trans hbl2
                have e1 : Below w.heap.size w4 w6 := e2.mono HB2.out.size
                have en : (pre ++ [(i : Int)]).length = n := by rw [HN.out, HM.out]; simp
                refine ⟨g, k, !e, pre ++ [(i : Int)], b2, cap2, by rw [en], rfl, hg2, by omega, by have := HN.out; rw [en]; omega, HMM.out, ?_, by rw [en]; exact hown2, HB5.out.trans e1, HBL5.out.trans e2⟩
                show wayI p q W0 p.length 0 true = pre ++ [(i : Int)] ++ wayI p q W0 g k (!e)
                rw [hway.out, HS.out, List.append_assoc]; rfl
              case measure => have := HN.out; simp [lenV]; omega
            · have hme : (worthT p q g k (!e) == W0) = false := by simp [hm]
              have HMM := Lib.hid hme
              obtain ⟨wk, hwk⟩ : ∃ x, x = worthT p q g k (!e) := ⟨_, rfl⟩
              rw [← hwk] at hme ⊢
              clear hm hwk
              go_wp2_with fail
              go_roundw
              case rel => exact ⟨j + 1, rfl, by go_num, by omega, fun j' hj' => by
                rcases Nat.lt_succ_iff_lt_or_eq.1 hj' with h | rfl
                · exact hno.out j' h
                · rw [← HKJ.out]; exact HMM.out, HBi5.out⟩
              case measure => simp [intOf]; omega
          · obtain rfl : j = (kids p i).length := by omega
            exact (HNO.out fun j' hj' => hno.out j' hj').elim
  · rw [Bool.not_eq_true] at hv
    rw [hv]
    have HR := Lib.hid (show bestL (p, q) = [] from if_neg (by rw [hv]; simp))
    have HRW := Lib.hid (show bestW (p, q) = 0 from if_neg (by rw [hv]; simp))
    have HVV := Lib.hid hv
    clear hv
    go_wp2_with fail
    go_ret3
    exact ⟨_, by rw [HVV.out, HRW.out]; rfl, by rw [HR.out]; exact ⟨World.ownsRow_nil _ _ _ _, by intro g hg; cases hg⟩, HB1.out⟩

def wayMs (way at' : Value) : Nat := match at' with
  | .int _ (.ofNat _) => 66 - lenV way
  | _ => 0
theorem wayMs_neg (v : Value) : wayMs v (.int .i64 (-1)) = 0 := rfl
theorem wayMs_nat (b : Option Addr) (n cap k : Nat) : wayMs (.slice b n cap) (.int .i64 (k : Int)) = 66 - n := rfl

theorem no_kid {P V : List Int} {W : Int} {g i : Nat} {e : Bool} (hw : worthT P V (g + 1) i e = W) (h0 : ∀ j, j < (kids P i).length → (worthT P V g ((kids P i).getD j 0) (!e) == W) = false) : wayI P V W (g + 1) i e = [(i : Int)] := by
  by_cases hk : kids P i = []
  · exact wayI_end hk
  · exact (way_some hk hw h0).elim

set_option maxHeartbeats 4000000 in
set_option maxRecDepth 4000 in
theorem specBest_any (v : Value) (t : List Int × List Int) (w : World) (h : RdT w v t) :
    Calls Try.prog 40 #[v] w fun e w' => ∃ v', e = .returned (.tuple #[.int .i64 (bestW t), v', .bool (validT t)]) ∧ OwnI w.heap.size w'.heap.size w' v' (bestL t) ∧ Below w.heap.size w w' := by
  obtain ⟨p, q⟩ := t
  obtain ⟨a, c, a', c', rfl⟩ := h.shape
  simp only at h ⊢
  have HP := Lib.hid h
  clear h
  go_enter Try.func40, Try.ntmps40
  go_wp2_with fail
  refine Calls.at fun w1 hW => ?_
  have HB1 := Lib.hid (show Below w.heap.size w w1 by subst hW; (repeat' first | exact Below.refl _ _ | assumption | refine Below.alloc ?_ ?_ _ | refine Below.setCell ?_ ?_ _ | refine Below.drew ?_ | (simp; done) | (simp; omega)))
  have HK1 := Lib.hid (show Blk w1 w.heap.size 28 #[.slice a p.length c, .slice a' q.length c'] by subst hW; exact Blk.new _ _ _)
  clear hW
  refine (l07Tree_any w.heap.size _ _ (p, q) w1 HK1.out (HP.out.up HB1.out (Nat.le_refl _))).mono ?_
  rintro e w' ⟨rfl, rfl⟩
  by_cases hv : validT (p, q) = true
  · rw [hv]
    have HV := Lib.hid (validT_iff.1 hv)
    have HVV := Lib.hid hv
    have hl64 := HV.out.2.1
    have hl1 := HV.out.1
    have HV0 := Lib.hid HV.out.2.2.2.1
    have HGP := Lib.hid HV.out.goodP
    simp only at hl64 hl1 HGP
    have HBW := Lib.hid (bestW_eq hv)
    have HBLL := Lib.hid (bestL_eq hv)
    simp only at HBW HBLL
    clear hv
    go_wp2_with fail
    refine (l07Worth_any w.heap.size _ _ (p, q) HV.out p.length 0 true w1 (by simp only; omega) (by simp only; omega) HK1.out (HP.out.up HB1.out (Nat.le_refl _))).mono ?_
    rintro e w2 ⟨rfl, hb2⟩
    simp only
    obtain ⟨W0, hW0⟩ : ∃ W0, W0 = worthT p q p.length 0 true := ⟨_, rfl⟩
    rw [← hW0] at HBW HBLL ⊢
    have HW0 := Lib.hid hW0
    have HB2 := Lib.hid (HB1.out.trans (hb2.mono HB1.out.size))
    have HK2 := Lib.hid (HK1.out.below hb2 HK1.out.lt)
    clear hb2 hW0
    go_wp2_with fail
    go_loopw [6, 7, 8] (fun way ev at' wr => ∃ (pre : List Int) (b : Option Addr) (cap : Nat) (e : Bool), way = .slice b pre.length cap ∧ ev = .bool e ∧ ((∃ f i : Nat, at' = .int .i64 i ∧ i < p.length ∧ p.length ≤ i + f ∧ pre.length ≤ i ∧ Hid (worthT p q f i e = W0) ∧ Hid (wayI p q W0 p.length 0 true = pre ++ wayI p q W0 f i e)) ∨ (at' = .int .i64 (-1) ∧ Hid (wayI p q W0 p.length 0 true = pre))) ∧ wr.ownsRow w2.heap.size 2 1 (.slice b pre.length cap) pre.length (pre.map I64) ∧ Below w.heap.size w wr ∧ Below w2.heap.size w2 wr) (fun way _ at' _ => wayMs way at')
    case atStart => exact ⟨[], _, _, true, rfl, rfl, .inl ⟨p.length, 0, rfl, by omega, by omega, Nat.zero_le _, HW0.out.symm, rfl⟩, owns_empty w2, HB2.out.alloc HB2.out.size _, (Below.refl _ _).alloc (Nat.le_refl _) _⟩
    case round =>
      obtain ⟨pre, b, cap, e, rfl, rfl, hcase, hown, hbl, hbl2⟩ := hrel
      have HO := Lib.hid hown
      have HB := Lib.hid hbl
      have HBL := Lib.hid hbl2
      have HKr := Lib.hid (HK2.out.below hbl2 HK2.out.lt)
      clear hown hbl hbl2
      rcases hcase with ⟨f, i, rfl, hi, hf, hpi, hw0, hway⟩ | ⟨rfl, hway⟩
      · obtain ⟨g, rfl⟩ : ∃ g, f = g + 1 := ⟨f - 1, by omega⟩
        obtain ⟨n, hn⟩ : ∃ n, n = pre.length := ⟨_, rfl⟩
        rw [← hn] at HO hpi ⊢
        have HN := Lib.hid hn
        clear hn
        have hsz := HBL.out.size
        go_wp2_with (at_builtin; refine app_ints rfl _ _ rfl w2.heap.size (.slice b n cap) n pre rfl (HO.out.alloc _) _ [(i : Int)] rfl (slc_one _ _) (n + 1) (pre ++ [(i : Int)]) (by simp) rfl (by omega) (by simp; omega) ?_; intro b2 cap2 w3 hown2 hbl2 _ _)
        have e2 : Below w2.heap.size wr w3 := ((Below.refl _ _).alloc HBL.out.size _).trans hbl2
        have HO3 := Lib.hid hown2
        have HB3 := Lib.hid (HB.out.trans (e2.mono HB2.out.size))
        have HBL3 := Lib.hid (HBL.out.trans e2)
        have HK3 := Lib.hid (HK2.out.below HBL3.out HK2.out.lt)
        clear hown2 hbl2 e2
        refine (l07Children_any w.heap.size _ _ (p, q) i w3 HK3.out (HP.out.up HB3.out (Nat.le_refl _)) hl64 HV0.out).mono ?_
        rintro e4 w4 ⟨v4, rfl, ho4, hb4⟩
        simp only at ho4
        obtain ⟨a4, c4, rfl⟩ := ho4.rd.shape
        have HO4 := Lib.hid (owns_below HO3.out hb4 (Nat.le_refl _))
        have HB4 := Lib.hid (HB3.out.trans (hb4.mono HB3.out.size))
        have HBL4 := Lib.hid (HBL3.out.trans (hb4.mono HBL3.out.size))
        have HR4 := Lib.hid ho4.rd
        have hsz4 := HBL4.out.size
        clear hb4 ho4
        rw [kidsI_full_len] at *
        have hkl : (kids p i).length ≤ 64 := Nat.le_trans (kidsTo_len p i p.length) hl64
        have HNO := Lib.hid (no_kid (P := p) (V := q) (W := W0) (g := g) (i := i) (e := e) hw0.out)
        go_wp2_with fail
        go_loopw [8, 25] (fun at' kk wi => ∃ j : Nat, kk = .int .i64 j ∧ j ≤ (kids p i).length ∧ ((at' = .int .i64 (-1) ∧ Hid (∀ j', j' < j → (worthT p q g ((kids p i).getD j' 0) (!e) == W0) = false)) ∨ (∃ k : Nat, at' = .int .i64 k ∧ Hid ((kids p i).find? (fun k => worthT p q g k (!e) == W0) = some k))) ∧ Below w4.heap.size w4 wi) (fun _ kk _ => (kids p i).length - (intOf kk).toNat)
        case atStart => exact ⟨0, rfl, Nat.zero_le _, .inl ⟨rfl, fun j' hj => by omega⟩, Below.refl _ _⟩
        case round =>
          obtain ⟨j, rfl, hj, hcase, hbi⟩ := hrel
          have HBi := Lib.hid hbi
          have HB5 := Lib.hid (HB4.out.trans (hbi.mono HB4.out.size))
          have HBL5 := Lib.hid (HBL4.out.trans (hbi.mono HBL4.out.size))
          have HK5 := Lib.hid (HK2.out.below HBL5.out HK2.out.lt)
          clear hbi
          by_cases hlt : j < (kids p i).length
          · rcases hcase with ⟨rfl, hno⟩ | ⟨k, rfl, hfd⟩
            · obtain ⟨jb, jo, rfl, _, hc⟩ := (HR4.out.up HBi.out (Nat.le_refl _)).at (i := j) (by rw [kidsI_full_len]; exact hlt)
              rw [kidsI_at hlt] at hc
              obtain ⟨k, hk⟩ : ∃ k, k = (kids p i).getD j 0 := ⟨_, rfl⟩
              rw [← hk] at hc
              have hkg := kid_gt HGP.out (kid_mem (P := p) (i := i) hlt)
              rw [← hk] at hkg
              obtain ⟨hg1, hg2⟩ := hkg
              have HKJ := Lib.hid hk
              clear hk
              go_wp2_with fail
              refine (l07Worth_any w.heap.size _ _ (p, q) HV.out g k (!e) wr hg2 (by simp only; omega) HK5.out (HP.out.up HB5.out (Nat.le_refl _))).mono ?_
              rintro e6 w6 ⟨rfl, hb6⟩
              have HBi6 := Lib.hid (HBi.out.trans (hb6.mono HBi.out.size))
              have hc6 := held_of hb6 hc (Nat.le_refl _)
              clear hb6 hc
              simp only
              by_cases hm : worthT p q g k (!e) = W0
              · have hme : (worthT p q g k (!e) == W0) = true := by simp [hm]
                have HS := Lib.hid (find_at (fun k => worthT p q g k (!e) == W0) 0 (kids p i) j hlt hno.out (by rw [← HKJ.out]; exact hme))
                rw [← HKJ.out] at HS
                obtain ⟨wk, hwk⟩ : ∃ x, x = worthT p q g k (!e) := ⟨_, rfl⟩
                rw [← hwk] at hme ⊢
                clear hm hwk
                go_wp2_with fail
                go_roundw
                case rel => exact ⟨j + 1, by go_num, by omega, .inr ⟨k, rfl, HS.out⟩, HBi6.out⟩
                case measure => simp [intOf]; omega
              · have hme : (worthT p q g k (!e) == W0) = false := by simp [hm]
                have HMM := Lib.hid hme
                obtain ⟨wk, hwk⟩ : ∃ x, x = worthT p q g k (!e) := ⟨_, rfl⟩
                rw [← hwk] at hme ⊢
                clear hm hwk
                go_wp2_with fail
                go_roundw
                case rel => exact ⟨j + 1, by go_num, by omega, .inl ⟨rfl, fun j' hj' => by
                  rcases Nat.lt_succ_iff_lt_or_eq.1 hj' with h | rfl
                  · exact hno.out j' h
                  · rw [← HKJ.out]; exact HMM.out⟩, HBi6.out⟩
                case measure => simp [intOf]; omega
            · go_wp2_with fail
              go_roundw
              case rel => exact ⟨j + 1, by go_num, by omega, .inr ⟨k, rfl, hfd.out⟩, HBi.out⟩
              case measure => simp [intOf]; omega
          · obtain rfl : j = (kids p i).length := by omega
            have en : (pre ++ [(i : Int)]).length = n + 1 := by rw [HN.out]; simp
            have EN := Lib.hid en
            clear en
            have HO6 := Lib.hid (owns_below HO4.out HBi.out (Nat.le_refl _))
            rcases hcase with ⟨rfl, hno⟩ | ⟨k, rfl, hfd⟩
            · go_wp2_with fail
              go_roundw
              case rel => exact ⟨pre ++ [(i : Int)], b2, cap2, !e, by rw [EN.out], rfl, .inr ⟨rfl, show wayI p q W0 p.length 0 true = pre ++ [(i : Int)] by rw [hway.out, HNO.out hno.out]⟩, by rw [EN.out]; exact HO6.out, HB5.out, HBL5.out⟩
              case measure => rw [wayMs_neg, wayMs_nat]; omega
            · have HS := Lib.hid (wayI_step hfd.out)
              have HF := Lib.hid (List.find?_some hfd.out)
              have hkg := kid_gt HGP.out (List.mem_of_find?_eq_some hfd.out)
              go_wp2_with fail
              go_roundw
              case rel =>
                refine ⟨pre ++ [(i : Int)], b2, cap2, !e, by rw [EN.out], rfl, .inl ⟨g, k, rfl, hkg.2, by omega, by rw [EN.out]; omega, show worthT p q g k (!e) = W0 by have := HF.out; simpa using this, ?_⟩, by rw [EN.out]; exact HO6.out, HB5.out, HBL5.out⟩
                show wayI p q W0 p.length 0 true = pre ++ [(i : Int)] ++ wayI p q W0 g k (!e)
                rw [hway.out, HS.out, List.append_assoc]; rfl
              case measure => rw [wayMs_nat, wayMs_nat]; omega
      · go_wp2_with fail
        go_ret3
        refine ⟨.slice b pre.length cap, by rw [HVV.out, HBW.out]; rfl, ?_, HB.out⟩
        rw [HBLL.out, hway.out]
        exact (OwnI.mk HO.out).wide HB2.out.size (Nat.le_refl _)
  · rw [Bool.not_eq_true] at hv
    rw [hv]
    have HR := Lib.hid (show bestL (p, q) = [] from if_neg (by rw [hv]; simp))
    have HRW := Lib.hid (show bestW (p, q) = 0 from if_neg (by rw [hv]; simp))
    have HVV := Lib.hid hv
    clear hv
    go_wp2_with fail
    go_ret3
    exact ⟨_, by rw [HVV.out, HRW.out]; rfl, by rw [HR.out]; exact ⟨World.ownsRow_nil _ _ _ _, by intro g hg; cases hg⟩, HB1.out⟩

end Go.Proofs.Ytkcpncaedocdnaa
