/-
  FnJournal: texts joined: ListI, LplI, DigM, LateM, HalfM, WtfI.
-/
import Derived.Deep.RegionLaw
import Derived.Lib.MinMax
import Derived.Laws.BitsLemmas
import Derived.Deep.CutRange
import Derived.Test.YtgkbbpajkbkgnaaGreatDoorMFnJournalAO
import Derived.Test.YtgkbbpajkbkgnaaGreatDoorMFnJournalAP
set_option linter.unusedVariables false
set_option linter.unusedSimpArgs false
namespace Go.Proofs.YtgkbbpajkbkgnaaGreatDoor
open Go.RowKit Go.Sort
set_option maxHeartbeats 1000000 in
theorem maxI_any (v : Value) (l : List Int) (w : World) (h : RdI w v l) (hl : 1 ≤ l.length) :
    Calls Tryz.prog 62 #[v] w fun e w' => e = .returned (.int .i64 (maxL l)) ∧ w' = w := by
  obtain ⟨a, c, rfl⟩ := h.shape
  have hlm := h.len
  unfold maxLen at hlm
  have HR := Lib.hid h
  have HK := Lib.hid (fun k => show maxK l (k + 1) = max (maxK l k) (l.getD (k + 1) 0) from rfl)
  obtain ⟨b, o, rfl, _, c0⟩ := h.at (i := 0) (by omega)
  have HK0 := Lib.hid (show maxK l 0 = l.getD 0 0 from rfl)
  obtain ⟨T, hT⟩ : ∃ T, T = maxK l := ⟨_, rfl⟩
  have HE := Lib.hid (show maxL l = T (l.length - 1) by rw [hT]; rfl)
  rw [← hT] at HK HK0
  rw [← HK0.out, Nat.add_zero] at c0
  obtain ⟨n, hn⟩ : ∃ n, n = l.length := ⟨_, rfl⟩
  have HN := Lib.hid hn.symm
  rw [← hn] at HE HR hl hlm ⊢
  have hlI : decide ((n : Int) < 1) = false := decide_eq_false (by omega)
  have h0I : (0 : Int) < (n : Int) := by omega
  clear h hn hT
  go_enter Tryz.func62, Tryz.ntmps62
  go_wp2_with fail
  go_loopw [3, 4] (fun mv iv wr => ∃ k : Nat, iv = .int .i64 ((k + 1 : Nat) : Int) ∧ k + 1 ≤ n ∧ mv = .int .i64 (T k) ∧ w = wr) (fun _ iv _ => n + 1 - (intOf iv).toNat)
  case atStart => exact ⟨0, rfl, hl, rfl, rfl⟩
  case round =>
    obtain ⟨k, rfl, hk, rfl, rfl⟩ := hrel
    obtain ⟨i, hi⟩ : ∃ i, i = k + 1 := ⟨_, rfl⟩
    have HI := Lib.hid hi
    rw [← hi] at hk ⊢
    by_cases hlt : i < n
    · have hltI : (i : Int) < (n : Int) := by omega
      obtain ⟨b2, o2, ee, _, c1⟩ := HR.out.at (i := i) (by rw [HN.out]; exact hlt)
      simp only [Option.some.injEq, Addr.mk.injEq, and_true] at ee
      obtain ⟨rfl, rfl⟩ := ee
      have hS := HK.out k
      rw [← hi] at hS
      obtain ⟨y, hy⟩ : ∃ y, y = l.getD i 0 := ⟨_, rfl⟩
      rw [← hy] at c1 hS
      have HS := Lib.hid hS
      clear hy hS hi
      go_wp2_with fail
      go_roundw
      case rel => exact ⟨i, by go_num, by omega, by rw [HS.out], by first | rfl | trivial⟩
      case measure => simp [intOf]; omega
    · obtain rfl : i = n := by omega
      have HE2 := Lib.hid (show maxL l = T k by rw [HE.out, hi]; rfl)
      clear hi
      go_wp2_with fail
      go_ret
      exact ⟨by rw [HE2.out]; rfl, rfl⟩
set_option maxHeartbeats 4000000 in
set_option maxRecDepth 8000 in
theorem listPlanI_any (v u : Value) (js : List JobD) (os : List Int) (m : Nat) (w : World) (h : RdJ w v js) (ho : RdI w u os) (hm : 1 ≤ m) (hm8 : m ≤ 8) (hok : areJobsB js = true) (hos : os.length ≤ 12) (hor : ∀ k, k < os.length → 0 ≤ os.getD k 0 ∧ (os.getD k 0).toNat < js.length) :
    Calls Tryz.prog 72 #[v, .int .i64 m, u] w fun e w' => ∃ v', e = .returned (.tuple #[v', .int .i64 (listE js os m)]) ∧ OwnI w.heap.size w'.heap.size w' v' (listO js os m) ∧ Below w.heap.size w w' := by
  obtain ⟨hn1, hn2, hjf⟩ := jobs_all hok
  obtain ⟨va, vc, rfl⟩ := h.shape
  obtain ⟨ua, uc, rfl⟩ := ho.shape
  have HR := Lib.hid h
  have HO := Lib.hid ho
  have HOR := Lib.hid hor
  have HJL := Lib.hid (fun i (hi : i < js.length) => (hjf i hi).1)
  have HRG := Lib.hid (fun k (hk : k ≤ os.length) f => listK_rng (js := js) (fun i hi => by have := hjf i hi; omega) (fun k hk => (hor k hk).2) m k hk f)
  have HLN := Lib.hid (listK_len js os m)
  have HS := Lib.hid (fun k => show listK js os m (k + 1) = ((listK js os m k).1.set (os.getD k 0).toNat (minK (listK js os m k).2 m : Nat), (listK js os m k).2.set (minK (listK js os m k).2 m) ((listK js os m k).2.getD (minK (listK js os m k).2 m) 0 + (js.getD (os.getD k 0).toNat J0).long)) from rfl)
  have HS0 := Lib.hid (show listK js os m 0 = (List.replicate js.length 0, List.replicate m 0) from rfl)
  obtain ⟨T, hT⟩ : ∃ T, T = listK js os m := ⟨_, rfl⟩
  have HE1 := Lib.hid (show listO js os m = (T os.length).1 by rw [hT]; rfl)
  have HE2 := Lib.hid (show listE js os m = maxL (T os.length).2 by rw [hT]; rfl)
  rw [← hT] at HRG HLN HS HS0
  obtain ⟨n, hn⟩ : ∃ n, n = js.length := ⟨_, rfl⟩
  obtain ⟨N, hN⟩ : ∃ N, N = os.length := ⟨_, rfl⟩
  have HN := Lib.hid hn.symm
  have HNO := Lib.hid hN.symm
  rw [← hn] at HR HOR HJL HLN HS0 hn1 hn2 ⊢
  rw [← hN] at HO HOR HRG HE1 HE2 hos ⊢
  have hmk1 := run_make_ints n (by omega)
  have hmk2 := run_make_ints m (by omega)
  have hnI : (0 : Int) ≤ (n : Int) := by omega
  clear h ho hor hjf hok hT hn hN
  go_enter Tryz.func72, Tryz.ntmps72
  go_wp2_with fail
  go_cut [8, 9] from 15 to 20 (fun gv hv wx => ∃ g h : Nat, gv = .slice (some ⟨g, 0, none⟩) n n ∧ hv = .slice (some ⟨h, 0, none⟩) m m ∧ g ≠ h ∧ Hid (wx.ownsRow w.heap.size 2 1 (.slice (some ⟨g, 0, none⟩) n n) n ((T 0).1.map I64)) ∧ Hid (wx.ownsRow w.heap.size 2 1 (.slice (some ⟨h, 0, none⟩) m m) m ((T 0).2.map I64)) ∧ Hid (Below w.heap.size w wx))
  case first =>
    go_region_law (fail)
    all_goals
      go_wp2_with fail
      go_meet
    case rel =>
      refine ⟨w.heap.size, w.heap.size + 1, rfl, rfl, by omega, ?_, ?_, Lib.hid (by (repeat' first | exact Below.refl _ _ | assumption | refine Below.alloc ?_ ?_ _ | refine Below.setCell ?_ ?_ _ | refine Below.drew ?_ | (simp; done) | (simp; omega)))⟩
      · rw [HS0.out]
        exact Lib.hid (owns_drew ((owns_base (owns_zerosI n (by omega) w _ rfl) (Nat.le_refl _)).alloc _))
      · rw [HS0.out]
        exact Lib.hid (owns_drew (owns_base (owns_zerosI m (by omega) _ _ (by simp)) (by simp)))
    case rel =>
      refine ⟨w.heap.size + 1, w.heap.size, rfl, rfl, by omega, ?_, ?_, Lib.hid (by (repeat' first | exact Below.refl _ _ | assumption | refine Below.alloc ?_ ?_ _ | refine Below.setCell ?_ ?_ _ | refine Below.drew ?_ | (simp; done) | (simp; omega)))⟩
      · rw [HS0.out]
        exact Lib.hid (owns_drew (owns_base (owns_zerosI n (by omega) _ _ (by simp)) (by simp)))
      · rw [HS0.out]
        exact Lib.hid (owns_drew ((owns_base (owns_zerosI m (by omega) w _ rfl) (Nat.le_refl _)).alloc _))
  case rest =>
    obtain ⟨g, h, rfl, rfl, hgh, HG, HH, HB⟩ := hcut
    have hg1 : w.heap.size ≤ g := (HG.out.lt g rfl).1
    have hh1 : w.heap.size ≤ h := (HH.out.lt h rfl).1
    have hzc := HB.out.size
    clear hmk1 hmk2
    go_wp2_with fail
    go_loopw [22] (fun kv wr => ∃ k : Nat, kv = .int .i64 k ∧ k ≤ N ∧ Hid (wr.ownsRow w.heap.size 2 1 (.slice (some ⟨g, 0, none⟩) n n) n ((T k).1.map I64)) ∧ Hid (wr.ownsRow w.heap.size 2 1 (.slice (some ⟨h, 0, none⟩) m m) m ((T k).2.map I64)) ∧ Hid (Below w.heap.size w wr)) (fun kv _ => N + 1 - (intOf kv).toNat)
    case atStart => exact ⟨0, rfl, Nat.zero_le _, HG, HH, HB⟩
    case round =>
      obtain ⟨k, rfl, hk, HG, HH, HB⟩ := hrel
      obtain ⟨wo, rfl⟩ : ∃ wo, wo = wr := ⟨wr, rfl⟩
      by_cases hlt : k < N
      · have hltI : (k : Int) < (N : Int) := by omega
        obtain ⟨ob, oo, rfl, _, co⟩ := (HO.out.up HB.out (Nat.le_refl _)).at (i := k) (by rw [HNO.out]; exact hlt)
        have hor := HOR.out k hlt
        have hS := HS.out k
        obtain ⟨x, hx⟩ : ∃ x, x = os.getD k 0 := ⟨_, rfl⟩
        rw [← hx] at co hor hS
        obtain ⟨y, rfl⟩ : ∃ y : Nat, x = (y : Int) := ⟨x.toNat, by omega⟩
        rw [show ((y : Int)).toNat = y by omega] at hor hS
        have hyn : (y : Int) < (n : Int) := by omega
        obtain ⟨jb, jo, rfl, _, cj, _⟩ := (HR.out.up HB.out (Nat.le_refl _)).at (i := y) (by rw [HN.out]; exact hor.2)
        have hl := HJL.out y hor.2
        obtain ⟨l, hl'⟩ : ∃ l, l = (js.getD y J0).long := ⟨_, rfl⟩
        rw [← hl'] at cj hl hS
        have hln := HLN.out k
        have hrg := HRG.out k (by omega)
        obtain ⟨⟨out, fr⟩, hT⟩ : ∃ p, p = T k := ⟨_, rfl⟩
        rw [← hT] at HG HH hS hln hrg
        simp only at HG HH hS hln hrg
        obtain ⟨hln1, hln2⟩ := hln
        have hfm : ∀ j, j ≤ m → minK fr j < m := fun j hj => minK_le fr m j (by omega) hj
        have hfc : ∀ j, j < m → wo.cell? ⟨h, j, none⟩ = some (.int .i64 (fr.getD j 0)) := fun j hj => by
          rw [HH.out.cellAt j (by omega), List.getElem?_map, List.getElem?_eq_getElem (by omega), List.getD_eq_getElem?_getD, List.getElem?_eq_getElem (by omega)]
          rfl
        have HFM := Lib.hid hfm
        have HFC := Lib.hid hfc
        have HSS := Lib.hid hS
        have HRR := Lib.hid hrg
        have hbl : 0 ≤ l ∧ l ≤ 1000 := by omega
        have HCJ := Lib.hid (fun X (hb : Below w.heap.size w X) => show X.cell? ⟨jb, jo + y * 4, none⟩ = some (.int .i64 l) by
          obtain ⟨jb', jo', ee, _, cc, _⟩ := (HR.out.up hb (Nat.le_refl _)).at (i := y) (by rw [HN.out]; exact hor.2)
          simp only [Option.some.injEq, Addr.mk.injEq, and_true] at ee
          obtain ⟨rfl, rfl⟩ := ee
          rw [hl']
          exact cc)
        clear hx hl' hT hfm hfc hS hrg hl
        go_wp2_with fail
        go_loopw [12, 28] (fun fv jv wr => ∃ j : Nat, jv = .int .i64 j ∧ j ≤ m ∧ fv = .int .i64 (minK fr j : Nat) ∧ wo = wr) (fun _ jv _ => m + 1 - (intOf jv).toNat)
        case atStart => exact ⟨0, rfl, Nat.zero_le _, rfl, rfl⟩
        case round =>
          obtain ⟨j, rfl, hj, rfl, rfl⟩ := hrel
          have hmj := HFM.out j hj
          by_cases hjm : j < m
          · have hjI : (j : Int) < (m : Int) := by omega
            have c1 := HFC.out j hjm
            have c2 := HFC.out _ hmj
            have hM : minK fr (j + 1) = if fr.getD j 0 < fr.getD (minK fr j) 0 then j else minK fr j := rfl
            obtain ⟨f, hf⟩ : ∃ f, f = minK fr j := ⟨_, rfl⟩
            rw [← hf] at hmj c2 hM ⊢
            obtain ⟨a, ha⟩ : ∃ a, a = fr.getD j 0 := ⟨_, rfl⟩
            obtain ⟨b, hb⟩ : ∃ a, a = fr.getD f 0 := ⟨_, rfl⟩
            rw [← ha] at c1 hM
            rw [← hb] at c2 hM
            have hfI : (f : Int) < (m : Int) := by omega
            clear ha hb hf
            by_cases hab : a < b
            · have HM := Lib.hid (show minK fr (j + 1) = j by rw [hM, if_pos hab])
              clear hM
              go_wp2_with fail
              go_roundw
              case rel => exact ⟨j + 1, by go_num, by omega, by rw [HM.out], by first | rfl | trivial⟩
              case measure => simp [intOf]; omega
            · have HM := Lib.hid (show minK fr (j + 1) = f by rw [hM, if_neg hab])
              clear hM
              go_wp2_with fail
              go_roundw
              case rel => exact ⟨j + 1, by go_num, by omega, by rw [HM.out], by first | rfl | trivial⟩
              case measure => simp [intOf]; omega
          · obtain rfl : j = m := by omega
            have hfb := HRR.out (minK fr j)
            have c2 := HFC.out _ hmj
            obtain ⟨f, hf⟩ : ∃ f, f = minK fr j := ⟨_, rfl⟩
            rw [← hf] at hmj c2 HSS hfb ⊢
            obtain ⟨b, hb⟩ : ∃ a, a = fr.getD f 0 := ⟨_, rfl⟩
            rw [← hb] at c2 HSS hfb
            have hfI : (f : Int) < (j : Int) := by omega
            have HFR := Lib.hid (show fr[f]? = some b by rw [hb, List.getD_eq_getElem?_getD, List.getElem?_eq_getElem (by omega)]; rfl)
            have hadd : IntKind.i64.wrap (b + l) = b + l := IntWalk.i64_in _ (by omega)
            have g1 : wo.cell? ⟨g, y, none⟩ = some (.int .i64 (out.getD y 0)) := by
              rw [HG.out.cellAt y (by omega), List.getElem?_map, List.getElem?_eq_getElem (by omega), List.getD_eq_getElem?_getD, List.getElem?_eq_getElem (by omega)]
              rfl
            have g2 := HG.out.frozenAt y
            clear hb hf
            go_upto_region 13 with fail
            refine wp_at fun w3 hw3 => ?_
            have HG3 := Lib.hid (show w3.ownsRow w.heap.size 2 1 (.slice (some ⟨g, 0, none⟩) n n) n ((out.set y (f : Int)).map I64) by
              subst hw3
              rw [List.map_set]
              exact (HG.out.stored y (.int .i64 f)).1)
            have HH3 := Lib.hid (show w3.ownsRow w.heap.size 2 1 (.slice (some ⟨h, 0, none⟩) j j) j (fr.map I64) by
              subst hw3
              exact owns_kept HH.out (Kept.setCell (S := (· = g)) (Kept.refl _ _) (.inr rfl) _) (fun b e1 e2 => hgh (by have : h = b := Option.some.inj e1; omega)))
            have HB3 := Lib.hid (show Below w.heap.size w w3 by subst hw3; exact HB.out.setCell hg1 _)
            have cj3 := HCJ.out w3 HB3.out
            have c3 : w3.cell? ⟨h, f, none⟩ = some (.int .i64 b) := by
              rw [HH3.out.cellAt f (by omega), List.getElem?_map, HFR.out]
              rfl
            have c4 := HH3.out.frozenAt f
            clear hw3 g1 g2 c2 cj co
            go_wp2_with fail
            go_region_law (fail)
            all_goals
              go_wp2_with fail
              go_roundw
              case rel =>
                refine ⟨k + 1, by go_num, by omega, Lib.hid ?_, Lib.hid ?_, Lib.hid (HB3.out.drew.setCell hh1 _)⟩
                · rw [HSS.out]
                  exact owns_kept (owns_drew HG3.out) (Kept.setCell (S := (· = h)) (Kept.refl _ _) (.inr rfl) _) (fun b e1 e2 => hgh (by have : g = b := Option.some.inj e1; omega))
                · rw [HSS.out]
                  show World.ownsRow _ _ _ _ _ _ ((fr.set f (b + l)).map I64)
                  rw [List.map_set]
                  exact ((owns_drew HH3.out).stored f (.int .i64 (b + l))).1
              case measure => simp [intOf]; omega
      · obtain rfl : k = N := by omega
        have HMX := Lib.hid (maxI_any (.slice (some ⟨h, 0, none⟩) m m) (T k).2 wo (slc_of_owns HH.out) (by rw [(HLN.out k).2]; exact hm))
        go_wp2_with (go_at_call 62; refine HMX.out.mono ?_; rintro e w3 ⟨rfl, rfl⟩)
        go_ret2
        exact ⟨_, by rw [HE2.out]; rfl, by rw [HE1.out]; exact OwnI.mk (n := n) HG.out, HB.out⟩
end Go.Proofs.YtgkbbpajkbkgnaaGreatDoor

namespace Go.Proofs.YtgkbbpajkbkgnaaGreatDoor
open Go.RowKit Go.Sort
def cf0 (_ _ : Nat) : Int := 0
theorem ltOf_cf0 : ltOf cf0 = fun _ _ => false := by funext x y; rfl
theorem swo_cf0 : SWO (ltOf cf0) := by rw [ltOf_cf0]; exact ⟨fun _ => rfl, fun _ _ _ h _ => (by cases h), fun _ _ _ _ _ => rfl⟩
theorem ins_const (b : Nat) (d : Array Nat) : ∀ k i, k = b - i → insOuter (fun _ _ => false) 0 b i d = d
  | 0, i, h => insOuter_stop _ _ _ _ _ (by omega)
  | k + 1, i, h => by
    rw [insOuter_go _ _ _ _ _ (by omega), insInner_stop _ _ _ _ (.inr rfl)]
    exact ins_const b d k (i + 1) (by omega)
theorem ordC_const (n : Nat) : ordC cf0 n = List.range n := by
  unfold ordC ordCA Sort.insertionSort
  rw [ltOf_cf0, ins_const n _ _ _ rfl, Array.toList_range]
theorem Tryz.entersLp (args : Array Value) (w : World) : (callFunc 73 args).run Tryz.prog w = .ok (.enter 73 args) w :=
  enters_of Tryz.func73 (by kernel_rfl) rfl args w
theorem lpCmp_any (a b : Int) (w : World) : Calls Tryz.prog 73 #[.int .i64 a, .int .i64 b] w fun e w' => e = .returned (.int .i64 0) ∧ ∃ q, w' = w.drewN q := by
  go_enter Tryz.func73, Tryz.ntmps73
  go_wp2_with fail
  go_ret
  exact ⟨rfl, 0, rfl⟩
def machB (js : List JobD) (m : Int) : Bool := areJobsB js && inB 1 8 m
theorem areMach_any (v : Value) (js : List JobD) (m : Int) (w : World) (h : RdJ w v js) :
    Calls Tryz.prog 71 #[v, .int .i64 m] w fun e w' => e = .returned (.bool (machB js m)) ∧ Below w.heap.size w w' := by
  have HA := Lib.hid (AreJobs_any v js w h)
  have HB := Lib.hid (show machB js m = (areJobsB js && inB 1 8 m) from rfl)
  obtain ⟨q, hq⟩ : ∃ q, q = areJobsB js := ⟨_, rfl⟩
  rw [← hq] at HA HB
  clear hq h
  cases q
  · go_enter Tryz.func71, Tryz.ntmps71
    go_wp2_with (go_at_call 51; refine HA.out.mono ?_; rintro e w1 ⟨rfl, hb1⟩)
    go_ret
    exact ⟨by rw [HB.out]; rfl, hb1⟩
  · go_enter Tryz.func71, Tryz.ntmps71
    go_wp2_with (first | (go_at_call 51; refine HA.out.mono ?_; rintro e w1 ⟨rfl, hb1⟩) | (go_at_call 115; refine (within_any _ _ _ _).mono ?_; rintro e w2 ⟨rfl, rfl⟩))
    go_ret
    exact ⟨by rw [HB.out]; rfl, hb1⟩
theorem range_ok (n k : Nat) (hk : k < (idxs (List.range n)).length) : 0 ≤ (idxs (List.range n)).getD k 0 ∧ ((idxs (List.range n)).getD k 0).toNat < n := by
  rw [idxs_len, List.length_range] at hk
  have : (idxs (List.range n)).getD k 0 = (k : Int) := by
    unfold idxs
    rw [List.getD_eq_getElem?_getD, List.getElem?_map, List.getElem?_range hk]
    rfl
  rw [this]
  omega
def lpO (js : List JobD) (m : Int) : List Int := if machB js m = true then listO js (idxs (List.range js.length)) m.toNat else []
def lpE (js : List JobD) (m : Int) : Int := if machB js m = true then listE js (idxs (List.range js.length)) m.toNat else 0
set_option maxHeartbeats 2000000 in
theorem listI_any (v : Value) (js : List JobD) (m : Int) (w : World) (h : RdJ w v js) :
    Calls Tryz.prog 24 #[v, .int .i64 m] w fun e w' => ∃ u, e = .returned (.tuple #[u, .int .i64 (lpE js m), .bool (machB js m)]) ∧ OwnI w.heap.size w'.heap.size w' u (lpO js m) ∧ Below w.heap.size w w' := by
  obtain ⟨va, vc, rfl⟩ := h.shape
  have HR := Lib.hid h
  have HM := Lib.hid (areMach_any _ js m w h)
  obtain ⟨q, hq⟩ : ∃ q, machB js m = q := ⟨_, rfl⟩
  have HQ := Lib.hid hq
  rw [hq] at HM ⊢
  clear hq h
  cases q
  · go_enter Tryz.func24, Tryz.ntmps24
    go_wp2_with (go_at_call 71; refine HM.out.mono ?_; rintro e w1 ⟨rfl, hb1⟩)
    go_ret3
    exact ⟨_, by rw [show lpE js m = 0 by unfold lpE; rw [HQ.out]; rfl]; rfl, by rw [show lpO js m = [] by unfold lpO; rw [HQ.out]; rfl]; exact ⟨World.ownsRow_nil _ _ _ _, by intro g hg; cases hg⟩, hb1⟩
  · have hp := HQ.out
    unfold machB at hp
    rw [Bool.and_eq_true, inB_iff] at hp
    obtain ⟨hjo, hm1, hm8⟩ := hp
    obtain ⟨M, rfl⟩ := Int.eq_ofNat_of_zero_le (show 0 ≤ m by omega)
    have HJO := Lib.hid hjo
    obtain ⟨hn, hn2, _⟩ := jobs_all HJO.out
    have HO := Lib.hid (fun X => orderByC_any 73 #[] Tryz.entersLp cf0 swo_cf0 js.length hn hn2 X (fun w0 g _ _ => fun m os dk hs x y => lpCmp_any _ _ _))
    rw [ordC_const] at HO
    have HL := Lib.hid (fun u X (hb : Below w.heap.size w X) (ho : RdI X u (idxs (List.range js.length))) => listPlanI_any (.slice va js.length vc) u js (idxs (List.range js.length)) M X (HR.out.up hb (Nat.le_refl _)) ho (by omega) (by omega) HJO.out (by rw [idxs_len, List.length_range]; omega) (fun k hk => range_ok _ k hk))
    have HE := Lib.hid (show lpE js (M : Int) = listE js (idxs (List.range js.length)) M by unfold lpE; rw [HQ.out]; rfl)
    have HS := Lib.hid (show lpO js (M : Int) = listO js (idxs (List.range js.length)) M by unfold lpO; rw [HQ.out]; rfl)
    clear hjo
    go_enter Tryz.func24, Tryz.ntmps24
    go_wp2_with (first
      | (go_at_call 71; refine HM.out.mono ?_; rintro e w1 ⟨rfl, hb1⟩)
      | (go_at_call 63; refine (HO.out w1).mono ?_; rintro e w2 ⟨u, rfl, ho, hb2⟩; have HB2 := Lib.hid (hb1.trans (hb2.mono hb1.size)))
      | (go_at_call 72; refine (HL.out u w2 HB2.out ho.rd).mono ?_; rintro e w3 ⟨v3, rfl, ho3, hb3⟩))
    go_ret3
    exact ⟨_, by rw [HE.out]; rfl, by rw [HS.out]; exact ho3.wide HB2.out.size (Nat.le_refl _), HB2.out.trans (hb3.mono HB2.out.size)⟩
end Go.Proofs.YtgkbbpajkbkgnaaGreatDoor

namespace Go.Proofs.YtgkbbpajkbkgnaaGreatDoor
open Go.RowKit
theorem i64_and1 (n : Int) : bits .and .i64 n 1 = n % 2 := by
  have h1 : (BitVec.ofInt 64 1).toNat = 2 ^ 1 - 1 := by decide
  have key : (BitVec.ofInt 64 n &&& BitVec.ofInt 64 1).toNat = (n % ((2 ^ 64 : Nat) : Int)).toNat % 2 ^ 1 := by
    rw [BitVec.toNat_and, BitVec.toNat_ofInt, h1, Nat.and_two_pow_sub_one_eq_mod]
  show IntKind.i64.wrap ((BitVec.ofInt 64 n &&& BitVec.ofInt 64 1).toNat : Nat) = n % 2
  rw [key, IntKind.wrap_i64]
  omega
theorem shr_nat (n i : Nat) : (n : Int) / 2 ^ i = ((n >>> i : Nat) : Int) := by rw [Nat.shiftRight_eq_div_pow]; push_cast; rfl
def digK (n : Nat) : Nat → List Nat
  | 0 => []
  | i + 1 => if (n >>> i) % 2 = 1 then digK n i ++ [i] else digK n i
def digN (n : Nat) : List Nat := digK n 20
theorem digK_stop {n i : Nat} (h : n >>> i = 0) : ∀ j, i ≤ j → digK n j = digK n i
  | 0, hj => by rw [show i = 0 by omega]
  | j + 1, hj => by
    by_cases e : i = j + 1
    · rw [e]
    · have ih := digK_stop h j (by omega)
      show (if (n >>> j) % 2 = 1 then digK n j ++ [j] else digK n j) = _
      have h0 : n >>> j = 0 := by
        rw [Nat.shiftRight_eq_div_pow] at h ⊢
        have hp : 2 ^ i ≤ 2 ^ j := Nat.pow_le_pow_right (by omega) (by omega)
        have hn : n < 2 ^ i := by
          rcases Nat.lt_or_ge n (2 ^ i) with h1 | h1
          · exact h1
          · have := Nat.div_pos h1 (Nat.pow_pos (by omega))
            omega
        exact Nat.div_eq_of_lt (by omega)
      rw [h0, if_neg (by decide), ih]
end Go.Proofs.YtgkbbpajkbkgnaaGreatDoor

namespace Go.Proofs.YtgkbbpajkbkgnaaGreatDoor
open Go.RowKit
set_option maxRecDepth 100000 in
theorem andNot_bit : ∀ a, a < 4096 → ∀ i, i < 12 → (a >>> i) % 2 = 1 → a &&& (18446744073709551615 - 2 ^ i) = a - 2 ^ i := by decide +kernel
theorem i64_andNot_nat (a b : Nat) (ha : a < 4611686018427387904) (hb : b < 4611686018427387904) : bits .andNot .i64 (a : Int) (b : Int) = ((a &&& (18446744073709551615 - b) : Nat) : Int) := by
  have hx : a &&& (18446744073709551615 - b) ≤ a := Nat.and_le_left
  show IntKind.i64.wrap ((BitVec.ofInt 64 (a : Int) &&& ~~~BitVec.ofInt 64 (b : Int)).toNat : Int) = _
  have e1 : (BitVec.ofInt 64 (a : Int)).toNat = a := by rw [BitVec.ofInt_natCast, BitVec.toNat_ofNat]; exact Nat.mod_eq_of_lt (by omega)
  have e2 : (BitVec.ofInt 64 (b : Int)).toNat = b := by rw [BitVec.ofInt_natCast, BitVec.toNat_ofNat]; exact Nat.mod_eq_of_lt (by omega)
  rw [BitVec.toNat_and, BitVec.toNat_not, e1, e2, IntKind.wrap_i64]
  have e : 2 ^ 64 - 1 - b = 18446744073709551615 - b := by omega
  rw [e]
  omega
theorem dig_bit (s : Nat) : ∀ k, ∀ i ∈ digK s k, (s >>> i) % 2 = 1
  | 0, i, h => by cases h
  | k + 1, i, h => by
    have ih := dig_bit s k
    simp only [digK] at h
    split at h
    · rename_i hb
      rw [List.mem_append, List.mem_singleton] at h
      rcases h with h | rfl
      · exact ih i h
      · exact hb
    · exact ih i h
theorem bit_le {s i : Nat} (h : (s >>> i) % 2 = 1) : 2 ^ i ≤ s := by
  rcases Nat.lt_or_ge s (2 ^ i) with c | c
  · rw [Nat.shiftRight_eq_div_pow, Nat.div_eq_of_lt c] at h
    cases h
  · exact c
theorem dig_lt {s n i : Nat} (hs : s < 2 ^ n) (h : i ∈ digN s) : i < n := by
  have h1 := bit_le (dig_bit s _ i h)
  rcases Nat.lt_or_ge i n with c | c
  · exact c
  · have := Nat.pow_le_pow_right (show 0 < 2 by omega) c
    omega
theorem digK_len (s : Nat) : ∀ k, (digK s k).length ≤ k
  | 0 => Nat.le_refl _
  | k + 1 => by
    have ih := digK_len s k
    simp only [digK]
    split
    · rw [List.length_append]; simp; omega
    · omega
def endK (js : List JobD) (L : List Nat) : Nat → Int
  | 0 => 0
  | k + 1 => endK js L k + (js.getD (L.getD k 0) J0).long
def costL (js : List JobD) (tab : List (Int × Nat)) (s : Nat) (E : Int) (i : Nat) : Int := (tab.getD (s - 2 ^ i) (0, 0)).1 + (js.getD i J0).weight * max 0 (E - (js.getD i J0).due)
def lateO (js : List JobD) (tab : List (Int × Nat)) (s : Nat) (L : List Nat) (E : Int) : Nat → Int × Nat
  | 0 => (0, 0)
  | k + 1 => if k = 0 ∨ costL js tab s E (L.getD k 0) < (lateO js tab s L E k).1 then (costL js tab s E (L.getD k 0), L.getD k 0) else lateO js tab s L E k
def lateAt (js : List JobD) (tab : List (Int × Nat)) (s : Nat) : Int × Nat := lateO js tab s (digN s) (endK js (digN s) (digN s).length) (digN s).length
def ltab (js : List JobD) : Nat → List (Int × Nat)
  | 0 => []
  | s + 1 => ltab js s ++ [lateAt js (ltab js s) s]
theorem ltab_len (js : List JobD) : ∀ s, (ltab js s).length = s
  | 0 => rfl
  | s + 1 => by simp [ltab, ltab_len js s]
theorem endK_rng {js : List JobD} (h : ∀ i, 0 ≤ (js.getD i J0).long ∧ (js.getD i J0).long ≤ 1000) (L : List Nat) : ∀ k, 0 ≤ endK js L k ∧ endK js L k ≤ 1000 * k
  | 0 => by simp [endK]
  | k + 1 => by
    have ih := endK_rng h L k
    have := h (L.getD k 0)
    simp only [endK]
    push_cast
    omega
theorem late_rng {js : List JobD} (h : ∀ i, 0 ≤ (js.getD i J0).due ∧ (0 ≤ (js.getD i J0).weight ∧ (js.getD i J0).weight ≤ 1000)) {E : Int} (hE : E ≤ 20000) (i : Nat) : 0 ≤ (js.getD i J0).weight * max 0 (E - (js.getD i J0).due) ∧ (js.getD i J0).weight * max 0 (E - (js.getD i J0).due) ≤ 20000000 := by
  have h1 := h i
  have hm : 0 ≤ max 0 (E - (js.getD i J0).due) ∧ max 0 (E - (js.getD i J0).due) ≤ 20000 := by omega
  constructor
  · exact Int.mul_nonneg h1.2.1 hm.1
  · have := Int.mul_le_mul h1.2.2 hm.2 hm.1 (by decide)
    omega
theorem ltab_rng {js : List JobD} (h1 : ∀ i, 0 ≤ (js.getD i J0).long ∧ (js.getD i J0).long ≤ 1000) (h2 : ∀ i, 0 ≤ (js.getD i J0).due ∧ (0 ≤ (js.getD i J0).weight ∧ (js.getD i J0).weight ≤ 1000)) : ∀ s t, 0 ≤ ((ltab js s).getD t (0, 0)).1 ∧ ((ltab js s).getD t (0, 0)).1 ≤ 20000000 * (t : Int)
  | 0, t => by simp [ltab]; omega
  | s + 1, t => by
    have ih := ltab_rng h1 h2 s
    simp only [ltab]
    rw [List.getD_eq_getElem?_getD]
    rcases Nat.lt_trichotomy t s with c | c | c
    · rw [List.getElem?_append_left (by rw [ltab_len]; exact c), ← List.getD_eq_getElem?_getD]
      exact ih t
    · subst c
      rw [List.getElem?_append_right (by rw [ltab_len]; exact Nat.le_refl _), ltab_len, Nat.sub_self]
      simp only [List.getElem?_cons_zero, Option.getD_some]
      have hE : endK js (digN t) (digN t).length ≤ 20000 := by
        have := (endK_rng h1 (digN t) (digN t).length).2
        have := digK_len t 20
        unfold digN at *
        omega
      have key : ∀ k, k ≤ (digN t).length → 0 ≤ (lateO js (ltab js t) t (digN t) (endK js (digN t) (digN t).length) k).1 ∧ (lateO js (ltab js t) t (digN t) (endK js (digN t) (digN t).length) k).1 ≤ 20000000 * (t : Int) := by
        intro k
        induction k with
        | zero => intro _; simp [lateO]; omega
        | succ k ihk =>
          intro hk
          have a := ihk (by omega)
          have hm : (digN t).getD k 0 ∈ digN t := by
            rw [List.getD_eq_getElem?_getD, List.getElem?_eq_getElem (by omega)]
            exact List.getElem_mem _
          have hb := bit_le (dig_bit t _ _ hm)
          have hp : 0 < 2 ^ (digN t).getD k 0 := Nat.pow_pos (by omega)
          have b := ih (t - 2 ^ (digN t).getD k 0)
          have d := late_rng h2 hE ((digN t).getD k 0)
          simp only [lateO]
          split
          · unfold costL
            omega
          · exact a
      exact key _ (Nat.le_refl _)
    · rw [List.getElem?_eq_none (by rw [List.length_append, ltab_len]; simp; omega)]
      simp
      omega
theorem digK_nil (s : Nat) : ∀ k, digK s k = [] → s % 2 ^ k = 0
  | 0, _ => by simp [Nat.mod_one]
  | k + 1, h => by
    simp only [digK] at h
    split at h
    · simp at h
    · rename_i hb
      have ih := digK_nil s k h
      rw [Nat.shiftRight_eq_div_pow] at hb
      have h2 : s / 2 ^ k % 2 = 0 := by omega
      rw [Nat.mod_pow_succ, ih, h2, Nat.mul_zero]
theorem digN_ne {s : Nat} (h0 : 1 ≤ s) (h : s < 1048576) : digN s ≠ [] := fun e => by
  have := digK_nil s 20 e
  omega
theorem lateO_mem {js : List JobD} {tab : List (Int × Nat)} {s : Nat} {L : List Nat} {E : Int} : ∀ k, 1 ≤ k → k ≤ L.length → (lateO js tab s L E k).2 ∈ L
  | 0, h, _ => by omega
  | k + 1, _, h => by
    have hm : L.getD k 0 ∈ L := by
      rw [List.getD_eq_getElem?_getD, List.getElem?_eq_getElem (by omega)]
      exact List.getElem_mem _
    simp only [lateO]
    split
    · exact hm
    · rename_i hc
      exact lateO_mem k (by omega) (by omega)
theorem ltab_last (js : List JobD) {s : Nat} (h0 : 1 ≤ s) (h1 : s < 1048576) : ∀ t, s < t → ((ltab js t).getD s (0, 0)).2 ∈ digN s
  | 0, h => by omega
  | t + 1, h => by
    simp only [ltab]
    rw [List.getD_eq_getElem?_getD]
    by_cases e : s = t
    · subst e
      rw [List.getElem?_append_right (by rw [ltab_len]; exact Nat.le_refl _), ltab_len, Nat.sub_self]
      simp only [List.getElem?_cons_zero, Option.getD_some]
      unfold lateAt
      refine lateO_mem _ ?_ (Nat.le_refl _)
      rcases Nat.eq_zero_or_pos (digN s).length with c | c
      · exact absurd (List.length_eq_zero_iff.1 c) (digN_ne h0 h1)
      · exact c
    · rw [List.getElem?_append_left (by rw [ltab_len]; omega), ← List.getD_eq_getElem?_getD]
      exact ltab_last js h0 h1 t (by omega)
def backK (tab : List (Int × Nat)) : Nat → Nat → List Nat
  | 0, _ => []
  | f + 1, s => if s = 0 then [] else (tab.getD s (0, 0)).2 :: backK tab f (s - 2 ^ (tab.getD s (0, 0)).2)
theorem backK_zero (tab : List (Int × Nat)) : ∀ f, backK tab f 0 = []
  | 0 => rfl
  | f + 1 => by simp [backK]
def ordLate (js : List JobD) : List Nat := (backK (ltab js (2 ^ js.length)) (2 ^ js.length - 1) (2 ^ js.length - 1)).reverse
def lateL (js : List JobD) : List Int := if areJobsB js = true then idxs (ordLate js) else []
def lateN (js : List JobD) : Int := if areJobsB js = true then ((ltab js (2 ^ js.length)).getD (2 ^ js.length - 1) (0, 0)).1 else 0
end Go.Proofs.YtgkbbpajkbkgnaaGreatDoor

namespace Go.Proofs.YtgkbbpajkbkgnaaGreatDoor
open Go.RowKit Go.Sort
def sumD (xs : List Int) (L : List Nat) : Nat → Int
  | 0 => 0
  | k + 1 => sumD xs L k + xs.getD (L.getD k 0) 0
def allI (xs : List Int) : Nat → Int
  | 0 => 0
  | k + 1 => allI xs k + xs.getD k 0
def farD (xs : List Int) (s : Nat) : Int := max (allI xs xs.length - 2 * sumD xs (digN s) (digN s).length) (2 * sumD xs (digN s) (digN s).length - allI xs xs.length)
def halfK (xs : List Int) : Nat → Nat × Int
  | 0 => (0, allI xs xs.length)
  | k + 1 => if farD xs (2 * k) < (halfK xs k).2 then (2 * k, farD xs (2 * k)) else halfK xs k
theorem allI_rng {xs : List Int} (h : ∀ i, 0 ≤ xs.getD i 0 ∧ xs.getD i 0 ≤ 1000) : ∀ k : Nat, 0 ≤ allI xs k ∧ allI xs k ≤ 1000 * k
  | 0 => by simp [allI]
  | k + 1 => by
    have ih := allI_rng h k
    have := h k
    simp only [allI]; push_cast; omega
theorem sumD_rng {xs : List Int} (h : ∀ i, 0 ≤ xs.getD i 0 ∧ xs.getD i 0 ≤ 1000) (L : List Nat) : ∀ k : Nat, 0 ≤ sumD xs L k ∧ sumD xs L k ≤ 1000 * k
  | 0 => by simp [sumD]
  | k + 1 => by
    have ih := sumD_rng h L k
    have := h (L.getD k 0)
    simp only [sumD]; push_cast; omega
theorem halfK_lt (xs : List Int) : ∀ k, (halfK xs k).1 ≤ 2 * (k - 1)
  | 0 => Nat.le_refl _
  | k + 1 => by
    have ih := halfK_lt xs k
    simp only [halfK]
    split
    · show 2 * k ≤ _; omega
    · omega
def halfN (xs : List Int) : Int := if areSizesB xs = true then (halfK xs (2 ^ (xs.length - 1))).2 else 0
def halfL (xs : List Int) : List Nat := if areSizesB xs = true then digN (halfK xs (2 ^ (xs.length - 1))).1 else []
def firstR (bins : List Int) (s : Int) : Nat → Nat
  | 0 => 0
  | k + 1 => if firstR bins s k = k ∧ bins.getD k 0 < s then k + 1 else firstR bins s k
theorem firstR_le (bins : List Int) (s : Int) : ∀ k, firstR bins s k ≤ k
  | 0 => Nat.le_refl _
  | k + 1 => by
    have ih := firstR_le bins s k
    simp only [firstR]
    split <;> omega
def sizeC (xs : List Int) (x y : Nat) : Int := cmpI (xs.getD (y % xs.length) 0) (xs.getD (x % xs.length) 0)
theorem swo_size (xs : List Int) : SWO (ltOf (sizeC xs)) := by
  have e : ltOf (sizeC xs) = fun x y => decide (xs.getD (y % xs.length) 0 < xs.getD (x % xs.length) 0) := ltOf_cmp (fun _ y => xs.getD (y % xs.length) 0) (fun x _ => xs.getD (x % xs.length) 0)
  rw [e]
  refine ⟨fun x => by simp, fun x y z h1 h2 => ?_, fun x y z h1 h2 => ?_⟩
  · simp only [decide_eq_true_eq] at *; omega
  · simp only [decide_eq_false_iff_not] at *; omega
def openB (bins : List Int) (room s : Int) : List Int := if firstR bins s bins.length = bins.length then bins ++ [room] else bins
def fbK (xs : List Int) (room : Int) (os : List Nat) : Nat → List Int × List Int
  | 0 => (List.replicate xs.length 0, [])
  | k + 1 => ((fbK xs room os k).1.set (os.getD k 0) (firstR (fbK xs room os k).2 (xs.getD (os.getD k 0) 0) (fbK xs room os k).2.length : Nat),
      (openB (fbK xs room os k).2 room (xs.getD (os.getD k 0) 0)).set (firstR (fbK xs room os k).2 (xs.getD (os.getD k 0) 0) (fbK xs room os k).2.length)
        ((openB (fbK xs room os k).2 room (xs.getD (os.getD k 0) 0)).getD (firstR (fbK xs room os k).2 (xs.getD (os.getD k 0) 0) (fbK xs room os k).2.length) 0 - xs.getD (os.getD k 0) 0))
def fbB (xs : List Int) (room : Int) : Bool := areSizesB xs && (inB 0 1000 room && decide (maxL xs ≤ room))
def fbO (xs : List Int) (room : Int) : List Int := if fbB xs room = true then (fbK xs room (ordC (sizeC xs) xs.length) xs.length).1 else []
def fbN (xs : List Int) (room : Int) : Int := if fbB xs room = true then ((fbK xs room (ordC (sizeC xs) xs.length) xs.length).2.length : Nat) else 0
theorem openB_len (bins : List Int) (room s : Int) : bins.length ≤ (openB bins room s).length ∧ (openB bins room s).length ≤ bins.length + 1 ∧ firstR bins s bins.length < (openB bins room s).length := by
  have h := firstR_le bins s bins.length
  unfold openB
  split
  · rw [List.length_append]; simp; omega
  · omega
theorem fbK_len (xs : List Int) (room : Int) (os : List Nat) : ∀ k, (fbK xs room os k).1.length = xs.length ∧ (fbK xs room os k).2.length ≤ k
  | 0 => by simp [fbK]
  | k + 1 => by
    have ih := fbK_len xs room os k
    have := openB_len (fbK xs room os k).2 room (xs.getD (os.getD k 0) 0)
    simp only [fbK, List.length_set]
    exact ⟨ih.1, by omega⟩
end Go.Proofs.YtgkbbpajkbkgnaaGreatDoor

namespace Go.Proofs.YtgkbbpajkbkgnaaGreatDoor
open Go.RowKit
theorem sizes_all {xs : List Int} (h : areSizesB xs = true) : (1 ≤ xs.length ∧ xs.length ≤ 16) ∧ ∀ x ∈ xs, 1 ≤ x ∧ x ≤ 1000 := by
  unfold areSizesB at h
  rw [Bool.and_eq_true, inB_iff, allIn_iff] at h
  refine ⟨by omega, fun x hx => ?_⟩
  obtain ⟨i, hi, rfl⟩ := List.mem_iff_getElem.1 hx
  have := inB_iff.1 (h.2 i hi)
  rw [List.getD_eq_getElem?_getD, List.getElem?_eq_getElem hi] at this
  exact this
theorem isRoom_any (n : Int) (w : World) : Calls Tryz.prog 61 #[.int .i64 n] w fun e w' => e = .returned (.bool (inB 0 1000 n)) ∧ w = w' := by
  go_enter Tryz.func61, Tryz.ntmps61
  go_wp2_with fail
  refine (within_any n 0 1000 w).mono ?_
  rintro e w1 ⟨rfl, rfl⟩
  go_wp2_with fail
  go_ret
  exact ⟨rfl, rfl⟩
set_option maxHeartbeats 4000000 in
set_option maxRecDepth 8000 in
theorem wtfI_any (v : Value) (xs : List Int) (room : Int) (w : World) (h : RdI w v xs) :
    Calls Tryz.prog 19 #[v, .int .i64 room] w fun e w' => e = .returned (.tuple #[.int .i64 (fillN xs room), .bool (fillB xs room)]) ∧ Below w.heap.size w w' := by
  obtain ⟨a, c, rfl⟩ := h.shape
  have HR := Lib.hid h
  have HA := Lib.hid (AreSizes_any _ xs w h)
  obtain ⟨q1, h1⟩ : ∃ q, areSizesB xs = q := ⟨_, rfl⟩
  obtain ⟨q2, h2⟩ : ∃ q, inB 0 1000 room = q := ⟨_, rfl⟩
  have HB := Lib.hid (show fillB xs room = (q1 && q2) by unfold fillB; rw [h1, h2])
  have HN := Lib.hid (show fillN xs room = if fillB xs room = true then (fillK xs room.toNat xs.length).getD room.toNat 0 else 0 from rfl)
  rw [h1] at HA
  have H1 := Lib.hid h1
  have H2 := Lib.hid h2
  clear h h1 h2
  cases q1
  · go_enter Tryz.func19, Tryz.ntmps19
    go_wp2_with (go_at_call 58; refine HA.out.mono ?_; rintro e w0 ⟨rfl, rfl⟩)
    go_ret2
    exact ⟨by rw [HN.out, HB.out, if_neg (by simp)]; rfl, Below.refl _ _⟩
  cases q2
  · go_enter Tryz.func19, Tryz.ntmps19
    go_wp2_with (first | (go_at_call 58; refine HA.out.mono ?_; rintro e w0 ⟨rfl, rfl⟩) | (go_at_call 61; refine (isRoom_any _ _).mono ?_; rintro e w1 ⟨rfl, rfl⟩; rw [H2.out]))
    go_ret2
    exact ⟨by rw [HN.out, HB.out, if_neg (by simp)]; rfl, Below.refl _ _⟩
  have hrm := inB_iff.1 H2.out
  obtain ⟨R, rfl⟩ := Int.eq_ofNat_of_zero_le hrm.1
  have hR : R ≤ 1000 := by omega
  obtain ⟨hsz, hsr⟩ := sizes_all H1.out
  have HSR := Lib.hid hsr
  have HRG := Lib.hid (fun k (hk : k ≤ xs.length) => fillK_rng (xs := xs) (fun x hx => (hsr x hx).1) R k hk)
  have HLN := Lib.hid (fillK_len xs R)
  have HK0 := Lib.hid (show fillK xs R 0 = (List.replicate (R + 1) 0).set 0 1 from rfl)
  have HKS := Lib.hid (fun k => show fillK xs R (k + 1) = fillJ (xs.getD k 0).toNat R (fillK xs R k) (R + 1 - (xs.getD k 0).toNat) from rfl)
  obtain ⟨T, hT⟩ : ∃ T, T = fillK xs R := ⟨_, rfl⟩
  have HE := Lib.hid (show fillN xs (R : Int) = (T xs.length).getD R 0 by rw [HN.out, HB.out, if_pos (by rfl), hT, Int.toNat_natCast])
  rw [← hT] at HRG HLN HK0 HKS
  obtain ⟨n, hn⟩ : ∃ n, n = xs.length := ⟨_, rfl⟩
  have HNL := Lib.hid hn.symm
  rw [← hn] at HR HA HRG HE hsz ⊢
  obtain ⟨M, hM⟩ : ∃ M, M = R + 1 := ⟨_, rfl⟩
  have hMI : (R : Int) + 1 = (M : Int) := by omega
  have HMI := Lib.hid hM
  have hM1 : 1 ≤ M ∧ M ≤ 1001 := by omega
  rw [← hM] at HK0 HLN
  have hmk := run_make_ints M (by omega)
  rw [← hMI] at hmk
  clear hT hn hM hMI hsr
  rw [HE.out, HB.out]
  go_enter Tryz.func19, Tryz.ntmps19
  go_upto_region 4 with (first | (go_at_call 58; refine HA.out.mono ?_; rintro e w0 ⟨rfl, rfl⟩) | (go_at_call 61; refine (isRoom_any _ _).mono ?_; rintro e w1 ⟨rfl, rfl⟩; rw [H2.out]))
  refine wp_at fun W hW => ?_
  obtain ⟨g, hg⟩ : ∃ g, g = w.heap.size := ⟨_, rfl⟩
  rw [← hg]
  have HO := Lib.hid (show W.ownsRow w.heap.size 2 1 (.slice (some ⟨g, 0, none⟩) M M) M ((List.replicate M (0 : Int)).map I64) by subst hW hg; exact owns_zerosI M (by omega) w _ rfl)
  have HBW := Lib.hid (show Below w.heap.size w W by subst hW; (repeat' first | exact Below.refl _ _ | assumption | refine Below.alloc ?_ ?_ _ | refine Below.setCell ?_ ?_ _ | refine Below.drew ?_ | (simp; done) | (simp; omega)))
  have hg1 : w.heap.size ≤ g := by omega
  clear hW hg hmk
  have d0 : W.cell? ⟨g, 0, none⟩ = some (.int .i64 0) := by
    rw [HO.out.cellAt 0 (by omega), List.getElem?_map, List.getElem?_replicate, if_pos (by omega)]
    rfl
  have f0 := HO.out.frozenAt 0
  have hM0 : (0 : Int) < (M : Int) := by omega
  go_upto_region 5 with fail
  refine wp_at fun W2 hW2 => ?_
  have HO2 := Lib.hid (show W2.ownsRow w.heap.size 2 1 (.slice (some ⟨g, 0, none⟩) M M) M ((T 0).map I64) by
    subst hW2
    rw [HK0.out, List.map_set]
    exact (HO.out.stored 0 (.int .i64 1)).1)
  have HB2 := Lib.hid (show Below w.heap.size w W2 by subst hW2; exact HBW.out.setCell hg1 _)
  clear hW2 d0 f0
  go_wp2_with fail
  go_loopw [25] (fun kv wr => ∃ k : Nat, kv = .int .i64 k ∧ k ≤ n ∧ Hid (wr.ownsRow w.heap.size 2 1 (.slice (some ⟨g, 0, none⟩) M M) M ((T k).map I64)) ∧ Hid (Below w.heap.size w wr)) (fun kv _ => n + 1 - (intOf kv).toNat)
  case atStart => exact ⟨0, rfl, Nat.zero_le _, HO2, HB2⟩
  case round =>
    obtain ⟨k, rfl, hk, HG, HB⟩ := hrel
    by_cases hlt : k < n
    · have hltI : (k : Int) < (n : Int) := by omega
      obtain ⟨ob, oo, rfl, _, co⟩ := (HR.out.up HB.out (Nat.le_refl _)).at (i := k) (by rw [HNL.out]; exact hlt)
      have hsx := HSR.out (xs.getD k 0) (by
        rw [List.getD_eq_getElem?_getD, List.getElem?_eq_getElem (by rw [HNL.out]; exact hlt)]
        exact List.getElem_mem _)
      have hKS := HKS.out k
      obtain ⟨x, hx⟩ : ∃ x, x = xs.getD k 0 := ⟨_, rfl⟩
      rw [← hx] at co hsx hKS
      obtain ⟨S, rfl⟩ := Int.eq_ofNat_of_zero_le (show 0 ≤ x by omega)
      rw [show ((S : Int)).toNat = S by omega] at hKS
      have hS1 : 1 ≤ S := by omega
      have hS2 : S ≤ 1000 := by omega
      have hrg := HRG.out k (by omega)
      have hpw : (2 : Int) ^ k ≤ 65536 := by
        have h1 : 2 ^ k ≤ 65536 := Nat.pow_le_pow_right (n := 2) (by omega) (show k ≤ 16 by omega)
        have e : (2 : Int) ^ k = ((2 ^ k : Nat) : Int) := by push_cast; rfl
        rw [e]
        exact Int.ofNat_le.2 h1
      have hln := HLN.out k
      obtain ⟨t, ht⟩ : ∃ t, t = T k := ⟨_, rfl⟩
      rw [← ht] at HG hKS hrg hln
      have HJR := Lib.hid (fun j (hj : j ≤ R + 1) => fillJ_rng (room := R) hS1 (fun i => show 0 ≤ t.getD i 0 ∧ t.getD i 0 ≤ 65536 from by have := hrg i; omega) j hj)
      have HJL := Lib.hid (fun j => show (fillJ S R t j).length = M by rw [fillJ_len, hln])
      have HJS := Lib.hid (fun j => show fillJ S R t (j + 1) = (fillJ S R t j).set (R - j) ((fillJ S R t j).getD (R - j) 0 + (fillJ S R t j).getD (R - j - S) 0) from rfl)
      have HJ0 := Lib.hid (show fillJ S R t 0 = t from rfl)
      have HKSS := Lib.hid hKS
      obtain ⟨F, hF⟩ : ∃ F, F = fillJ S R t := ⟨_, rfl⟩
      rw [← hF] at HJR HJL HJS HJ0 HKSS
      clear hx hsx hKS hrg hpw hln ht hF
      obtain ⟨wo, rfl⟩ : ∃ wo, wo = wr := ⟨wr, rfl⟩
      go_wp2_with fail
      go_loopw [9] (fun rv wr => ∃ r j : Nat, rv = .int .i64 r ∧ r ≤ R ∧ Hid (r + j = R ∧ j ≤ R + 1 - S) ∧ Hid (wr.ownsRow w.heap.size 2 1 (.slice (some ⟨g, 0, none⟩) M M) M ((F j).map I64)) ∧ Hid (Below w.heap.size w wr)) (fun rv _ => (intOf rv).toNat)
      case atStart => exact ⟨R, 0, rfl, Nat.le_refl _, Lib.hid ⟨rfl, Nat.zero_le _⟩, Lib.hid (by rw [HJ0.out]; exact HG.out), HB⟩
      case round =>
        obtain ⟨r, j, rfl, hr, HRJ, HG, HB⟩ := hrel
        by_cases hge : S ≤ r
        · have hgeI : (S : Int) ≤ (r : Int) := by omega
          have hrj := HRJ.out
          have hMM := HMI.out
          have hlj := HJL.out j
          have hrr := (HJR.out j (by omega)).1
          have e1 : (F j)[r]? = some ((F j).getD r 0) := by rw [List.getD_eq_getElem?_getD, List.getElem?_eq_getElem (by omega)]; rfl
          have e2 : (F j)[r - S]? = some ((F j).getD (r - S) 0) := by rw [List.getD_eq_getElem?_getD, List.getElem?_eq_getElem (by omega)]; rfl
          have ha := hrr r
          have hb := hrr (r - S)
          have hst := HJS.out j
          rw [show R - j = r by omega] at hst
          have c1 : wr.cell? ⟨g, r, none⟩ = some (.int .i64 ((F j).getD r 0)) := by rw [HG.out.cellAt r (by omega), List.getElem?_map, e1]; rfl
          have c2 : wr.cell? ⟨g, r - S, none⟩ = some (.int .i64 ((F j).getD (r - S) 0)) := by rw [HG.out.cellAt (r - S) (by omega), List.getElem?_map, e2]; rfl
          have fr := HG.out.frozenAt r
          obtain ⟨A, hA⟩ : ∃ A, A = (F j).getD r 0 := ⟨_, rfl⟩
          obtain ⟨B, hB⟩ : ∃ B, B = (F j).getD (r - S) 0 := ⟨_, rfl⟩
          rw [← hA] at c1 ha hst
          rw [← hB] at c2 hb hst
          have HST := Lib.hid hst
          obtain ⟨p, hp⟩ : ∃ p, p = r - S := ⟨_, rfl⟩
          rw [← hp] at c2
          have hw1 : IntKind.i64.wrap ((r : Int) - (S : Int)) = (p : Int) := by rw [IntWalk.i64_in _ (by omega)]; omega
          have hw2 : IntKind.i64.wrap (A + B) = A + B := IntWalk.i64_in _ (by omega)
          have hpI : (p : Int) < (M : Int) := by omega
          have hrI : (r : Int) < (M : Int) := by omega
          have HLT := Lib.hid (show j + 1 ≤ R + 1 - S by omega)
          obtain ⟨r1, hr1⟩ : ∃ r1, r = r1 + 1 := ⟨r - 1, by omega⟩
          have hw3 : IntKind.i64.wrap ((r : Int) - 1) = (r1 : Int) := by rw [IntWalk.i64_in _ (by omega)]; omega
          have HR1 := Lib.hid (show r1 + (j + 1) = R by omega)
          have hRr : r ≤ 1000 := by omega
          have HRM := Lib.hid (show r1 ≤ R by omega)
          have HR1E := Lib.hid hr1
          clear hrj hMM hlj hrr e1 e2 hst hA hB hp hr1
          go_wp2_with fail
          go_region_law (fail)
          all_goals
            go_wp2_with fail
            go_roundw
            case rel =>
              refine ⟨r1, j + 1, rfl, HRM.out, Lib.hid ⟨HR1.out, HLT.out⟩, Lib.hid ?_, Lib.hid (HB.out.drew.setCell hg1 _)⟩
              rw [HST.out, List.map_set]
              exact ((owns_drew HG.out).stored r (.int .i64 (A + B))).1
            case measure => have := HR1E.out; simp [intOf]; omega
        · have hgeI : ¬ (S : Int) ≤ (r : Int) := by omega
          have HX := Lib.hid (show F j = T (k + 1) by
            have := HRJ.out
            rw [HKSS.out, show j = R + 1 - S by omega])
          go_wp2_with fail
          go_roundw
          case rel => exact ⟨k + 1, by go_num, by omega, Lib.hid (by rw [← HX.out]; exact HG.out), HB⟩
          case measure => simp [intOf]; omega
    · obtain rfl : k = n := by omega
      have hMM := HMI.out
      have hlk := HLN.out k
      have c1 : wr.cell? ⟨g, R, none⟩ = some (.int .i64 ((T k).getD R 0)) := by
        rw [HG.out.cellAt R (by omega), List.getElem?_map, List.getD_eq_getElem?_getD, List.getElem?_eq_getElem (by omega)]; rfl
      have hRI : (R : Int) < (M : Int) := by omega
      clear hMM hlk
      go_wp2_with fail
      go_ret2
      exact ⟨rfl, HB.out⟩
end Go.Proofs.YtgkbbpajkbkgnaaGreatDoor
