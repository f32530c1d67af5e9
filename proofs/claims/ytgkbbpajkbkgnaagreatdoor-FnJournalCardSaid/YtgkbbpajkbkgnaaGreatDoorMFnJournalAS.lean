/-
  FnJournal: texts joined: LbI, DigI, BhI.
-/
import Derived.Deep.Cut
import Derived.Lib.MinMax
import Derived.Test.YtgkbbpajkbkgnaaGreatDoorMFnJournalAF
import Derived.Test.YtgkbbpajkbkgnaaGreatDoorMFnJournalAO
import Derived.Test.YtgkbbpajkbkgnaaGreatDoorMFnJournalAQ
import Derived.Test.YtgkbbpajkbkgnaaGreatDoorMFnJournalAR
set_option linter.unusedVariables false
set_option linter.unusedSimpArgs false
namespace Go.Proofs.YtgkbbpajkbkgnaaGreatDoor
open Go.RowKit Go.Sort
set_option maxHeartbeats 4000000 in
set_option maxRecDepth 8000 in
theorem fewest_any (xs : List Int) (hs : areSizesB xs = true) (R : Nat) (hR : R ≤ 1000) : ∀ (f : Nat) (bins : List Int) (v u : Value) (w : World), f ≤ xs.length → RdI w v xs → RdI w u bins → bins.length ≤ xs.length - f → (∀ k, -(1000 * ((xs.length - f : Nat) : Int)) ≤ bins.getD k 0 ∧ bins.getD k 0 ≤ 1000) →
    Calls Tryz.prog 313 #[v, u, .int .i64 R, .int .i64 ((xs.length - f : Nat) : Int)] w fun e w' => e = .returned (.int .i64 (fewR xs R f bins)) ∧ Below w.heap.size w w'
  | 0, bins, v, u, w, hf, h, hu, hl, hr => by
    obtain ⟨va, vc, rfl⟩ := h.shape
    obtain ⟨ua, uc, rfl⟩ := hu.shape
    have hlm := hu.len
    have HE := Lib.hid (show fewR xs R 0 bins = bins.length from rfl)
    rw [Nat.sub_zero]
    have hee : ((xs.length : Int) == (xs.length : Int)) = true := by simp
    clear h hr hu
    go_enter Tryz.func313, Tryz.ntmps313
    go_wp2_with (go_at_call 66; refine (size_any _ _ hlm).mono ?_; rintro e w3 ⟨rfl, rfl⟩)
    go_ret
    exact ⟨by rw [HE.out]; rfl, Below.refl _ _⟩
  | f + 1, bins, v, u, w, hf, h, hu, hl, hr => by
    have hrec := fewest_any xs hs R hR f
    obtain ⟨hsz, hsr⟩ := sizes_all hs
    obtain ⟨va, vc, rfl⟩ := h.shape
    obtain ⟨ua, uc, rfl⟩ := hu.shape
    obtain ⟨i, hi⟩ : ∃ i, i = xs.length - (f + 1) := ⟨_, rfl⟩
    have hi1 : xs.length - f = i + 1 := by omega
    have hin : i < xs.length := by omega
    rw [hi1] at hrec
    rw [← hi] at hr hl ⊢
    have HR := Lib.hid h
    have HU := Lib.hid hu
    have HRR := Lib.hid hr
    obtain ⟨l, hl'⟩ : ∃ l, l = xs.getD i 0 := ⟨_, rfl⟩
    have hlb : 1 ≤ l ∧ l ≤ 1000 := by
      rw [hl']
      exact hsr _ (by rw [List.getD_eq_getElem?_getD, List.getElem?_eq_getElem hin]; exact List.getElem_mem _)
    have HE := Lib.hid (show fewR xs R (f + 1) bins = fewK (fewR xs R f) l bins (fewR xs R f (bins ++ [(R : Int) - l])) bins.length by rw [hl', hi]; rfl)
    obtain ⟨xb, xo, rfl, hxb, cx0⟩ := h.at (i := i) hin
    have HCX := Lib.hid (fun X (hb : Below w.heap.size w X) => show X.cell? ⟨xb, xo + i, none⟩ = some (.int .i64 l) by
      obtain ⟨b', o', e, _, d⟩ := (h.up hb (Nat.le_refl _)).at hin
      simp only [Option.some.injEq, Addr.mk.injEq, and_true] at e
      obtain ⟨rfl, rfl⟩ := e
      rw [hl']
      exact d)
    have HST := Lib.hid (fun b k => show fewK (fewR xs R f) l bins b (k + 1) = if bins.getD k 0 < l then fewK (fewR xs R f) l bins b k else min (fewK (fewR xs R f) l bins b k) (fewR xs R f (bins.set k (bins.getD k 0 - l))) from rfl)
    have HF0 := Lib.hid (fun b => show fewK (fewR xs R f) l bins b 0 = b from rfl)
    have HRC := Lib.hid (fun X u' l2 (hb : Below w.heap.size w X) (hu' : RdI X u' l2) (h1 : l2.length ≤ i + 1) (h2 : ∀ k, -(1000 * ((i + 1 : Nat) : Int)) ≤ l2.getD k 0 ∧ l2.getD k 0 ≤ 1000) => hrec l2 (.slice (some ⟨xb, xo, none⟩) xs.length vc) u' X (by omega) (h.up hb (Nat.le_refl _)) hu' h1 h2)
    obtain ⟨rec, hrc⟩ : ∃ T, T = fewR xs R f := ⟨_, rfl⟩
    rw [← hrc] at HST HRC HE HF0
    obtain ⟨n, hn⟩ : ∃ n, n = xs.length := ⟨_, rfl⟩
    rw [← hn] at HR HRC hin hsz ⊢
    obtain ⟨m, hm⟩ : ∃ m, m = bins.length := ⟨_, rfl⟩
    have HML := Lib.hid hm.symm
    rw [← hm] at HU hl HE ⊢
    have hne : ((i : Int) == (n : Int)) = false := by rw [beq_eq_false_iff_ne]; omega
    have hi1' : IntKind.i64.wrap ((i : Int) + 1) = ((i + 1 : Nat) : Int) := by rw [IntWalk.i64_in _ (by omega)]; push_cast; rfl
    have hinI : (i : Int) < (n : Int) := by omega
    have hm16 : m ≤ 16 := by omega
    have hsub : IntKind.i64.wrap ((R : Int) - l) = (R : Int) - l := IntWalk.i64_in _ (by omega)
    have HAPR := Lib.hid (show ∀ k, -(1000 * ((i + 1 : Nat) : Int)) ≤ (bins ++ [(R : Int) - l]).getD k 0 ∧ (bins ++ [(R : Int) - l]).getD k 0 ≤ 1000 from fun k => by
      rw [getD_app]
      have := hr k
      split <;> push_cast <;> omega)
    have HSTR := Lib.hid (show ∀ j k, -(1000 * ((i + 1 : Nat) : Int)) ≤ (bins.set j (bins.getD j 0 - l)).getD k 0 ∧ (bins.set j (bins.getD j 0 - l)).getD k 0 ≤ 1000 from fun j k => by
      rw [getD_set']
      have := hr k
      have := hr j
      split <;> push_cast <;> omega)
    have HCP := Lib.hid (fun X (hb : Below w.heap.size w X) => copyI_n ua uc m bins X HML.out (HU.out.up hb (Nat.le_refl _)) (by omega))
    have HKEEP := Lib.hid (show ∀ X, Below w.heap.size w X → X.cell? ⟨xb, xo + i, none⟩ = some (.int .i64 l) ∧ Below w.heap.size w X from fun X hb => ⟨HCX.out X hb, hb⟩)
    have dx := HCX.out w (Below.refl _ _)
    have hi1z : ((i + 1 : Nat) : Int) = (i : Int) + 1 := by push_cast; rfl
    clear h hu hr hrec hs hsr hi hl' hrc hn hi1 hm cx0
    go_enter Tryz.func313, Tryz.ntmps313
    go_wp2_with fail
    go_cut [9] from 20 to 34 (fun bv wx => bv = .int .i64 (rec (bins ++ [(R : Int) - l])) ∧ Hid (Below w.heap.size w wx))
    case first =>
      go_region_held3 (fun X => X.cell? ⟨xb, xo + i, none⟩ = some (.int .i64 l) ∧ Below w.heap.size w X)
        (first | (refine HKEEP.out _ ?_; first | exact hbn | exact hba | exact hbc | exact hbc.alloc hbc.size _ | (repeat' first | exact Below.refl _ _ | assumption | refine Below.alloc ?_ ?_ _ | refine Below.setCell ?_ ?_ _ | refine Below.drew ?_ | (simp; done) | (simp; omega))))
        (first
          | (go_at_call 123; have hh := (‹_ ∧ Below w.heap.size w _›).2; refine (HCP.out _ hh).mono ?_; rintro e w1 ⟨g1, cap1, rfl, hown, hbl⟩; have hbc : Below w.heap.size w w1 := hh.trans (hbl.mono hh.size))
          | (refine step_app_own rfl (.tmp 22) (.tmp 29) (by rfl) w.heap.size ⟨g1, 0, none⟩ m cap1 bins (by rfl) (by first | exact owns_base hown (by first | exact Nat.le_refl _ | exact hh.size) | exact owns_base (hown.alloc _) (by first | exact Nat.le_refl _ | exact hh.size)) _ [(R : Int) - l] (by rfl) (by first | exact slc_one _ _ | exact slc_oneB _ _ _ (by simp) | exact slc_drew (slc_oneB _ _ _ (by simp)) | exact (slc_oneB _ _ _ (by simp)).below hbl (Nat.le_refl _) | exact (slc_drew (slc_oneB _ _ _ (by simp))).below hbl (Nat.le_refl _)) (m + 1) (bins ++ [(R : Int) - l]) (by simp) (by simp) (by omega) (by first | exact hbc.size | exact (hbc.alloc hbc.size _).size) ?_; intro g2 cap2 w2 hown2 hbl2 hg2; have hba : Below w.heap.size w w2 := Below.trans (by first | assumption | exact hbc.alloc hbc.size _) hbl2)
          | (go_at_call 313; refine (HRC.out w2 (.slice (some ⟨g2, 0, none⟩) (m + 1) cap2) (bins ++ [(R : Int) - l]) hba (by have := slc_of_owns hown2; unfold RdI; exact this) (by simp [HML.out]; omega) HAPR.out).mono ?_; rintro e w3 ⟨rfl, hb3⟩; have hbn : Below w.heap.size w w3 := hba.trans (hb3.mono hba.size))
          | fail)
      all_goals
        go_wp2_with fail
        go_meet
        case rel => exact ⟨rfl, Lib.hid hbn⟩
    case rest =>
      obtain ⟨rfl, HB⟩ := hcut
      obtain ⟨b0, hb0⟩ : ∃ b0, b0 = rec (bins ++ [(R : Int) - l]) := ⟨_, rfl⟩
      rw [← hb0] at HE ⊢
      have HF00 := Lib.hid (HF0.out b0)
      have HSTB := Lib.hid (HST.out b0)
      obtain ⟨T, hT⟩ : ∃ T, T = fewK rec l bins b0 := ⟨_, rfl⟩
      rw [← hT] at HF00 HSTB HE
      clear hb0 hT dx
      go_wp2_with fail
      go_loopw [9, 37] (fun bv kv wr => ∃ k : Nat, kv = .int .i64 k ∧ k ≤ m ∧ bv = .int .i64 (T k) ∧ Hid (Below w.heap.size w wr)) (fun _ kv _ => m + 1 - (intOf kv).toNat)
      case atStart => exact ⟨0, rfl, Nat.zero_le _, by rw [HF00.out], HB⟩
      case round =>
        obtain ⟨k, rfl, hk, rfl, HB⟩ := hrel
        obtain ⟨wo, rfl⟩ : ∃ wo, wo = wr := ⟨wr, rfl⟩
        by_cases hlt : k < m
        · have hltI : (k : Int) < (m : Int) := by omega
          obtain ⟨ub, uo, rfl, _, cu⟩ := (HU.out.up HB.out (Nat.le_refl _)).at (i := k) (by rw [HML.out]; exact hlt)
          have dx := HCX.out wo HB.out
          have hS := HSTB.out k
          have hub := HRR.out k
          obtain ⟨x, hx⟩ : ∃ x, x = bins.getD k 0 := ⟨_, rfl⟩
          have HX := Lib.hid hx
          rw [← hx] at cu hS hub
          by_cases hxl : x < l
          · have hge : decide (l ≤ x) = false := decide_eq_false (by omega)
            have HN := Lib.hid (show T (k + 1) = T k by rw [hS, if_pos hxl])
            clear hS hx hub
            go_wp2_with fail
            go_roundw
            case rel => exact ⟨k + 1, by go_num, by omega, by rw [HN.out], HB⟩
            case measure => simp [intOf]; omega
          · have hge : decide (l ≤ x) = true := decide_eq_true (by omega)
            rw [if_neg hxl] at hS
            obtain ⟨l2, hl2⟩ : ∃ l2, l2 = bins.set k (x - l) := ⟨_, rfl⟩
            rw [← hl2] at hS
            have HL2 := Lib.hid hl2
            have HL2R := Lib.hid (show ∀ k, -(1000 * ((i + 1 : Nat) : Int)) ≤ l2.getD k 0 ∧ l2.getD k 0 ≤ 1000 by rw [hl2, hx]; exact HSTR.out k)
            have HL2L := Lib.hid (show l2.length = m by rw [hl2, List.length_set]; exact HML.out)
            have HSS := Lib.hid hS
            have hadd : IntKind.i64.wrap (x - l) = x - l := IntWalk.i64_in _ (by omega)
            have HCK := Lib.hid (HCP.out wo HB.out)
            clear hx hl2 hS hub
            go_upto_region 9 with (go_at_call 123; refine HCK.out.mono ?_; rintro e w2 ⟨g, gc, rfl, hog, hb2⟩)
            have HB2 := Lib.hid (HB.out.trans (hb2.mono HB.out.size))
            have c1 : w2.cell? ⟨g, k, none⟩ = some (.int .i64 x) := by
              have hkl : k < bins.length := by rw [HML.out]; exact hlt
              rw [hog.cellAt k (by omega), List.getElem?_map, List.getElem?_eq_getElem hkl, HX.out, List.getD_eq_getElem?_getD, List.getElem?_eq_getElem hkl]
              rfl
            have c2 := hog.frozenAt k
            have c3 := HCX.out w2 HB2.out
            have HOG := Lib.hid hog
            have hgw : wo.heap.size ≤ g := (hog.lt g rfl).1
            have hzo := HB.out.size
            clear hog cu hb2 dx
            have HB3 := Lib.hid (show Below w.heap.size w (w2.drew.setCell ⟨g, k, none⟩ (.int .i64 (x - l))) from HB2.out.drew.setCell (by show w.heap.size ≤ g; omega) _)
            have HU3 := Lib.hid (show RdI (w2.drew.setCell ⟨g, k, none⟩ (.int .i64 (x - l))) (.slice (some ⟨g, 0, none⟩) m gc) l2 from slc_of_owns (by rw [HL2.out, List.map_set]; exact ((owns_drew HOG.out).stored k (.int .i64 (x - l))).1))
            have HCL := Lib.hid (HRC.out _ _ l2 HB3.out HU3.out (by rw [HL2L.out]; omega) HL2R.out)
            have hz3 : w.heap.size ≤ (w2.drew.setCell ⟨g, k, none⟩ (.int .i64 (x - l))).heap.size := HB3.out.size
            have HFI := Lib.hid (fun W (hb4 : Below (w2.drew.setCell ⟨g, k, none⟩ (.int .i64 (x - l))).heap.size (w2.drew.setCell ⟨g, k, none⟩ (.int .i64 (x - l))) W) => HB3.out.trans (hb4.mono hz3))
            obtain ⟨en, hen⟩ : ∃ en, en = rec l2 := ⟨_, rfl⟩
            obtain ⟨b, hb⟩ : ∃ b, b = T k := ⟨_, rfl⟩
            rw [← hb, ← hen] at HSS
            rw [← hen] at HCL
            rw [← hb]
            clear hb hen HRC HCP HU HR HCK
            go_region_law (fail)
            all_goals
              go_wp2_with (go_at_call 313; refine HCL.out.mono ?_; rintro e w4 ⟨rfl, hb4⟩)
              go_roundw
              case rel => exact ⟨k + 1, by go_num, by omega, by rw [HSS.out], Lib.hid (HFI.out _ hb4)⟩
              case measure => simp [intOf]; omega
        · obtain rfl : k = m := by omega
          go_wp2_with fail
          go_ret
          exact ⟨by rw [HE.out]; rfl, HB.out⟩
theorem maxL_leB {xs : List Int} {r : Int} (h : 1 ≤ xs.length) : maxL xs ≤ r ↔ (xs.all fun x => decide (x ≤ r)) = true := by
  rw [List.all_eq_true]
  constructor
  · intro hm x hx
    obtain ⟨i, hi, rfl⟩ := List.mem_iff_getElem.1 hx
    have := maxK_geF xs (xs.length - 1) i (by omega)
    rw [List.getD_eq_getElem?_getD, List.getElem?_eq_getElem hi] at this
    unfold maxL at hm
    simp only [Option.getD_some] at this
    exact decide_eq_true (by omega)
  · intro hm
    unfold maxL
    have : ∀ k, k < xs.length → maxK xs k ≤ r := fun k => by
      induction k with
      | zero =>
        intro hk
        have := hm _ (List.getElem_mem hk)
        simp only [decide_eq_true_eq] at this
        simp only [maxK]
        rw [List.getD_eq_getElem?_getD, List.getElem?_eq_getElem hk]
        exact this
      | succ k ih =>
        intro hk
        have := hm _ (List.getElem_mem hk)
        simp only [decide_eq_true_eq] at this
        have ih := ih (by omega)
        simp only [maxK]
        rw [List.getD_eq_getElem?_getD, List.getElem?_eq_getElem hk]
        simp only [Option.getD_some]
        omega
    exact this _ (by omega)
set_option maxHeartbeats 2000000 in
theorem lbI_any (v : Value) (xs : List Int) (room : Int) (w : World) (h : RdI w v xs) :
    Calls Tryz.prog 283 #[v, .int .i64 room] w fun e w' => e = .returned (.tuple #[.int .i64 (binsN xs room), .bool (binsB xs room)]) ∧ Below w.heap.size w w' := by
  obtain ⟨a, c, rfl⟩ := h.shape
  have HR := Lib.hid h
  have HA := Lib.hid (AreSizes_any _ xs w h)
  obtain ⟨q1, h1⟩ : ∃ q, areSizesB xs = q := ⟨_, rfl⟩
  obtain ⟨q2, h2⟩ : ∃ q, inB 0 1000 room = q := ⟨_, rfl⟩
  obtain ⟨q3, h3⟩ : ∃ q, (xs.all fun x => decide (x ≤ room)) = q := ⟨_, rfl⟩
  have HB := Lib.hid (show binsB xs room = (q1 && (decide (xs.length ≤ 10) && (q2 && q3))) by unfold binsB; rw [h1, h2, h3])
  have HN := Lib.hid (show binsN xs room = if binsB xs room = true then fewR xs room xs.length [] else 0 from rfl)
  rw [h1] at HA
  have H1 := Lib.hid h1
  have H2 := Lib.hid h2
  have H3 := Lib.hid h3
  clear h h1 h2 h3
  cases q1
  · go_enter Tryz.func283, Tryz.ntmps283
    go_wp2_with (go_at_call 58; refine HA.out.mono ?_; rintro e w0 ⟨rfl, rfl⟩)
    go_ret2
    exact ⟨by rw [HN.out, HB.out]; rfl, Below.refl _ _⟩
  obtain ⟨hsz, hsr⟩ := sizes_all H1.out
  have HMX := Lib.hid (maxI_any _ xs w HR.out hsz.1)
  have HLE := Lib.hid (maxL_leB (xs := xs) (r := room) hsz.1)
  have HF := Lib.hid (fun R (hR : R ≤ 1000) => fewest_any xs H1.out R hR xs.length [] (.slice a xs.length c) (.slice none 0 0) w (Nat.le_refl _) HR.out (Slc.nil _) (Nat.zero_le _) (fun k => by simp))
  obtain ⟨n, hn⟩ : ∃ n, n = xs.length := ⟨_, rfl⟩
  rw [← hn] at HB HN HA HMX HF hsz ⊢
  rw [Nat.sub_self] at HF
  clear hn hsr
  by_cases h10 : n ≤ 10
  case neg =>
    have h10' : decide ((10 : Int) < (n : Int)) = true := decide_eq_true (by omega)
    have HB2 := Lib.hid (show binsB xs room = false by rw [HB.out, decide_eq_false h10]; rfl)
    clear h10
    go_enter Tryz.func283, Tryz.ntmps283
    go_wp2_with (go_at_call 58; refine HA.out.mono ?_; rintro e w0 ⟨rfl, rfl⟩)
    go_ret2
    exact ⟨by rw [HN.out, HB2.out]; rfl, Below.refl _ _⟩
  have h10' : decide ((10 : Int) < (n : Int)) = false := decide_eq_false (by omega)
  have HB2 := Lib.hid (show binsB xs room = (q2 && q3) by rw [HB.out, decide_eq_true h10, Bool.true_and, Bool.true_and])
  clear h10
  cases q2
  · go_enter Tryz.func283, Tryz.ntmps283
    go_wp2_with (first | (go_at_call 58; refine HA.out.mono ?_; rintro e w0 ⟨rfl, rfl⟩) | (go_at_call 61; refine (isRoom_any _ _).mono ?_; rintro e w1 ⟨rfl, rfl⟩; rw [H2.out]))
    go_ret2
    exact ⟨by rw [HN.out, HB2.out]; rfl, Below.refl _ _⟩
  cases q3
  · have hmx : decide (room < maxL xs) = true := by
      rcases Int.lt_or_le room (maxL xs) with h | h
      · exact decide_eq_true h
      · exact absurd (HLE.out.1 h) (by rw [H3.out]; simp)
    go_enter Tryz.func283, Tryz.ntmps283
    go_wp2_with (first | (go_at_call 58; refine HA.out.mono ?_; rintro e w0 ⟨rfl, rfl⟩) | (go_at_call 61; refine (isRoom_any _ _).mono ?_; rintro e w1 ⟨rfl, rfl⟩; rw [H2.out]) | (go_at_call 62; refine HMX.out.mono ?_; rintro e w2 ⟨rfl, hw2⟩; obtain rfl := hw2.symm))
    go_ret2
    exact ⟨by rw [HN.out, HB2.out]; rfl, Below.refl _ _⟩
  have hmx : decide (room < maxL xs) = false := decide_eq_false (by
    have := HLE.out.2 H3.out
    omega)
  have hrm := inB_iff.1 H2.out
  obtain ⟨R, rfl⟩ := Int.eq_ofNat_of_zero_le hrm.1
  have HFR := Lib.hid (HF.out R (by omega))
  go_enter Tryz.func283, Tryz.ntmps283
  go_wp2_with (first | (go_at_call 58; refine HA.out.mono ?_; rintro e w0 ⟨rfl, rfl⟩) | (go_at_call 61; refine (isRoom_any _ _).mono ?_; rintro e w1 ⟨rfl, rfl⟩; rw [H2.out]) | (go_at_call 62; refine HMX.out.mono ?_; rintro e w2 ⟨rfl, hw2⟩; obtain rfl := hw2.symm) | (go_at_call 313; refine HFR.out.mono ?_; rintro e w3 ⟨rfl, hb3⟩))
  go_ret2
  exact ⟨by rw [HN.out, HB2.out]; rfl, hb3⟩
end Go.Proofs.YtgkbbpajkbkgnaaGreatDoor

namespace Go.Proofs.YtgkbbpajkbkgnaaGreatDoor
open Go.RowKit
set_option maxHeartbeats 1000000 in
theorem digI_any (n : Nat) (hn : n < 1048576) (w : World) :
    Calls Tryz.prog 69 #[.int .i64 n] w fun e w' => ∃ u, e = .returned u ∧ OwnI w.heap.size w'.heap.size w' u (idxs (digN n)) ∧ Below w.heap.size w w' := by
  go_enter Tryz.func69, Tryz.ntmps69
  go_wp2_with fail
  go_loopw [3, 4] (fun ov iv wr => ∃ (i : Nat) (g : Option Addr) (c : Nat), iv = .int .i64 i ∧ i ≤ 20 ∧ ov = .slice g (digK n i).length c ∧ Hid (wr.ownsRow w.heap.size 2 1 (.slice g (digK n i).length c) (digK n i).length ((idxs (digK n i)).map I64)) ∧ Hid (Below w.heap.size w wr)) (fun _ iv _ => 21 - (intOf iv).toNat)
  case atStart => exact ⟨0, none, 0, rfl, by omega, rfl, Lib.hid (World.ownsRow_nil _ _ _ _), Lib.hid (Below.refl _ _)⟩
  case round =>
    obtain ⟨i, g, c, rfl, hi, rfl, HO, HB⟩ := hrel
    obtain ⟨wo, rfl⟩ : ∃ wo, wo = wr := ⟨wr, rfl⟩
    have hsh := shr_nat n i
    have hst : n >>> i = 0 → digN n = digK n i := fun h => digK_stop h 20 hi
    have hi20 : n >>> i ≠ 0 → i < 20 := fun h => by
      rcases Nat.lt_or_ge i 20 with h1 | h1
      · exact h1
      · obtain rfl : i = 20 := by omega
        exact absurd (by rw [Nat.shiftRight_eq_div_pow]; exact Nat.div_eq_of_lt (by omega)) h
    have hnx : digK n (i + 1) = if (n >>> i) % 2 = 1 then digK n i ++ [i] else digK n i := rfl
    obtain ⟨s, hs⟩ : ∃ s, s = n >>> i := ⟨_, rfl⟩
    rw [← hs] at hsh hst hi20 hnx
    have hb := i64_and1 (s : Int)
    obtain ⟨L, hL⟩ : ∃ L, L = digK n i := ⟨_, rfl⟩
    rw [← hL] at HO hst hnx ⊢
    have HST := Lib.hid hst
    have HNX := Lib.hid hnx
    have hLl : L.length ≤ 20 := by
      have : (digK n i).length ≤ i := by
        have : ∀ k, (digK n k).length ≤ k := fun k => by
          induction k with
          | zero => exact Nat.le_refl _
          | succ k ih =>
            simp only [digK]
            split
            · rw [List.length_append]; simp; omega
            · omega
        exact this i
      rw [hL]; omega
    have hzo := HB.out.size
    clear hs hL hst hnx
    by_cases h0 : s = 0
    · have hs0 : ¬ (0 : Int) < (s : Int) := by omega
      have HE := Lib.hid (HST.out h0)
      clear h0 hb
      go_wp2_with fail
      go_ret
      exact ⟨_, rfl, by rw [HE.out]; exact OwnI.mk HO.out, HB.out⟩
    · have hs0 : (0 : Int) < (s : Int) := by omega
      have hi2 := hi20 h0
      clear h0 hi20
      by_cases h1 : s % 2 = 1
      · have hb1 : bits .and .i64 (s : Int) 1 = 1 := by rw [hb]; omega
        have HN := Lib.hid (show digK n (i + 1) = L ++ [i] by rw [HNX.out, if_pos h1])
        clear hb h1
        go_wp2_with (at_builtin; refine app_ints rfl _ _ rfl w.heap.size (.slice g L.length c) L.length (idxs L) rfl (HO.out.alloc _) _ [(i : Int)] rfl (slc_one _ _) (L.length + 1) (idxs (L ++ [i])) (by simp) (by unfold idxs; rw [List.map_append]; rfl) (by omega) (by simp; omega) ?_; intro b2 cap2 w3 hown2 hbl2 _ _)
        go_roundw
        case rel => exact ⟨i + 1, b2, cap2, by go_num, by omega, by rw [HN.out]; simp, Lib.hid (by rw [HN.out, List.length_append]; exact hown2), Lib.hid (HB.out.trans (((Below.refl _ _).alloc hzo _).trans hbl2))⟩
        case measure => simp [intOf]; omega
      · have hb1 : bits .and .i64 (s : Int) 1 = 0 := by rw [hb]; omega
        have HN := Lib.hid (show digK n (i + 1) = L by rw [HNX.out, if_neg h1])
        clear hb h1
        go_wp2_with fail
        go_roundw
        case rel => exact ⟨i + 1, g, c, by go_num, by omega, by rw [HN.out], Lib.hid (by rw [HN.out]; exact HO.out), HB⟩
        case measure => simp [intOf]; omega
end Go.Proofs.YtgkbbpajkbkgnaaGreatDoor

namespace Go.Proofs.YtgkbbpajkbkgnaaGreatDoor
open Go.RowKit
theorem allI_bnd {xs : List Int} {B : Nat} (h : ∀ i, -(B : Int) ≤ xs.getD i 0 ∧ xs.getD i 0 ≤ B) : ∀ k : Nat, -((B * k : Nat) : Int) ≤ allI xs k ∧ allI xs k ≤ ((B * k : Nat) : Int)
  | 0 => by simp [allI]
  | k + 1 => by
    have ih := allI_bnd h k
    have := h k
    have e : B * (k + 1) = B * k + B := Nat.mul_succ B k
    simp only [allI]
    rw [e]
    push_cast at *
    omega
set_option maxHeartbeats 1000000 in
theorem sumI_any (v : Value) (xs : List Int) (B : Nat) (w : World) (h : RdI w v xs) (hl : xs.length ≤ 1000) (hB : B ≤ 1000000) (hx : ∀ i, -(B : Int) ≤ xs.getD i 0 ∧ xs.getD i 0 ≤ B) :
    Calls Tryz.prog 291 #[v] w fun e w' => e = .returned (.int .i64 (allI xs xs.length)) ∧ w = w' := by
  obtain ⟨a, c, rfl⟩ := h.shape
  have HR := Lib.hid h
  have HX := Lib.hid hx
  have HRG := Lib.hid (fun k (hk : k ≤ xs.length) => show -(1000000000 : Int) ≤ allI xs k ∧ allI xs k ≤ 1000000000 from by
    have h1 := allI_bnd hx k
    have h2 : B * k ≤ 1000000 * 1000 := Nat.mul_le_mul hB (by omega)
    omega)
  have HS := Lib.hid (fun k => show allI xs (k + 1) = allI xs k + xs.getD k 0 from rfl)
  have HS0 := Lib.hid (show allI xs 0 = 0 from rfl)
  obtain ⟨T, hT⟩ : ∃ T, T = allI xs := ⟨_, rfl⟩
  rw [← hT] at HRG HS HS0 ⊢
  obtain ⟨n, hn⟩ : ∃ n, n = xs.length := ⟨_, rfl⟩
  have HN := Lib.hid hn.symm
  rw [← hn] at HR HRG hl ⊢
  clear h hx hT hn
  go_enter Tryz.func291, Tryz.ntmps291
  go_wp2_with fail
  go_loopw [3, 8] (fun sv kv wr => ∃ k : Nat, kv = .int .i64 k ∧ k ≤ n ∧ sv = .int .i64 (T k) ∧ w = wr) (fun _ kv _ => n + 1 - (intOf kv).toNat)
  case atStart => exact ⟨0, rfl, Nat.zero_le _, by rw [HS0.out], rfl⟩
  case round =>
    obtain ⟨k, rfl, hk, rfl, rfl⟩ := hrel
    by_cases hlt : k < n
    · have hltI : (k : Int) < (n : Int) := by omega
      obtain ⟨b, o, rfl, _, c1⟩ := HR.out.at (i := k) (by rw [HN.out]; exact hlt)
      have hS := HS.out k
      have h1 := HRG.out k (by omega)
      have h2 := HRG.out (k + 1) (by omega)
      rw [hS] at h2
      obtain ⟨y, hy⟩ : ∃ y, y = xs.getD k 0 := ⟨_, rfl⟩
      rw [← hy] at c1 hS h2
      obtain ⟨s, hs⟩ : ∃ s, s = T k := ⟨_, rfl⟩
      rw [← hs] at hS h1 h2 ⊢
      have HSS := Lib.hid hS
      have hadd : IntKind.i64.wrap (s + y) = s + y := IntWalk.i64_in _ (by omega)
      clear hy hs hS
      go_wp2_with fail
      go_roundw
      case rel => exact ⟨k + 1, by go_num, by omega, by rw [HSS.out], by first | rfl | trivial⟩
      case measure => simp [intOf]; omega
    · obtain rfl : k = n := by omega
      go_wp2_with fail
      go_ret
      exact ⟨rfl, rfl⟩
set_option maxHeartbeats 4000000 in
set_option maxRecDepth 8000 in
theorem bhI_any (v : Value) (xs : List Int) (w : World) (h : RdI w v xs) :
    Calls Tryz.prog 232 #[v] w fun e w' => ∃ u, e = .returned (.tuple #[u, .int .i64 (halfN xs), .bool (areSizesB xs)]) ∧ OwnI w.heap.size w'.heap.size w' u (idxs (halfL xs)) ∧ Below w.heap.size w w' := by
  obtain ⟨a, c, rfl⟩ := h.shape
  have HR := Lib.hid h
  have HA := Lib.hid (AreSizes_any _ xs w h)
  obtain ⟨q, hq⟩ : ∃ q, areSizesB xs = q := ⟨_, rfl⟩
  have HQ := Lib.hid hq
  rw [hq] at HA ⊢
  clear hq h
  cases q
  · go_enter Tryz.func232, Tryz.ntmps232
    go_wp2_with (go_at_call 58; refine HA.out.mono ?_; rintro e w0 ⟨rfl, rfl⟩)
    go_ret3
    exact ⟨_, by rw [show halfN xs = 0 by unfold halfN; rw [HQ.out]; rfl]; rfl, by rw [show halfL xs = [] by unfold halfL; rw [HQ.out]; rfl]; exact ⟨World.ownsRow_nil _ _ _ _, by intro g hg; cases hg⟩, Below.refl _ _⟩
  obtain ⟨hsz, hsr⟩ := sizes_all HQ.out
  have hx1 : ∀ i, 0 ≤ xs.getD i 0 ∧ xs.getD i 0 ≤ 1000 := fun i => by
    by_cases hi : i < xs.length
    · have := hsr (xs.getD i 0) (by rw [List.getD_eq_getElem?_getD, List.getElem?_eq_getElem hi]; exact List.getElem_mem _)
      omega
    · rw [List.getD_eq_getElem?_getD, List.getElem?_eq_none (by omega)]; decide
  have HSM := Lib.hid (sumI_any _ xs 1000 w HR.out (by omega) (by omega) (fun i => by have := hx1 i; omega))
  have HAR := Lib.hid (allI_rng hx1 xs.length)
  have HSR := Lib.hid (fun L k => sumD_rng hx1 L k)
  have HSS := Lib.hid (fun L k => show sumD xs L (k + 1) = sumD xs L k + xs.getD (L.getD k 0) 0 from rfl)
  have HSS0 := Lib.hid (fun L => show sumD xs L 0 = 0 from rfl)
  have HLT := Lib.hid (halfK_lt xs)
  have HK := Lib.hid (fun k => show halfK xs (k + 1) = if max (allI xs xs.length - 2 * sumD xs (digN (2 * k)) (digN (2 * k)).length) (2 * sumD xs (digN (2 * k)) (digN (2 * k)).length - allI xs xs.length) < (halfK xs k).2 then (2 * k, max (allI xs xs.length - 2 * sumD xs (digN (2 * k)) (digN (2 * k)).length) (2 * sumD xs (digN (2 * k)) (digN (2 * k)).length - allI xs xs.length)) else halfK xs k from rfl)
  have HK0 := Lib.hid (show halfK xs 0 = (0, allI xs xs.length) from rfl)
  have HE1 := Lib.hid (show halfN xs = (halfK xs (2 ^ (xs.length - 1))).2 by unfold halfN; rw [HQ.out]; rfl)
  have HE2 := Lib.hid (show halfL xs = digN (halfK xs (2 ^ (xs.length - 1))).1 by unfold halfL; rw [HQ.out]; rfl)
  have HRC := Lib.hid (fun X (hb : Below w.heap.size w X) => HR.out.up hb (Nat.le_refl _))
  have HPW := Lib.hid (show 2 ^ xs.length = 2 * 2 ^ (xs.length - 1) by
    obtain ⟨m, hm⟩ : ∃ m, xs.length = m + 1 := ⟨xs.length - 1, by omega⟩
    rw [hm, Nat.pow_succ, Nat.add_sub_cancel]; omega)
  have HP1 := Lib.hid (show 2 ^ (xs.length - 1) ≤ 2 ^ 15 from Nat.pow_le_pow_right (by omega) (by omega))
  obtain ⟨T, hT⟩ : ∃ T, T = halfK xs := ⟨_, rfl⟩
  obtain ⟨U, hU⟩ : ∃ U, U = sumD xs := ⟨_, rfl⟩
  obtain ⟨A, hA⟩ : ∃ A, A = allI xs xs.length := ⟨_, rfl⟩
  obtain ⟨n, hn⟩ : ∃ n, n = xs.length := ⟨_, rfl⟩
  rw [← hT] at HLT HK HK0 HE1 HE2
  rw [← hU] at HSR HSS HSS0 HK
  rw [← hA] at HSM HAR HK HK0
  have HN := Lib.hid hn.symm
  rw [← hn] at HAR HE1 HE2 HPW HP1 HA HSM HRC hsz ⊢
  obtain ⟨P, hP⟩ : ∃ P, P = 2 ^ (n - 1) := ⟨_, rfl⟩
  rw [← hP] at HE1 HE2 HPW HP1
  have hP15 : P ≤ 32768 := HP1.out
  have hsl : IntKind.i64.wrap ((2 : Int) ^ n) = 2 * (P : Int) := by
    rw [show ((2 : Int) ^ n) = ((2 ^ n : Nat) : Int) by push_cast; rfl, HPW.out]
    rw [IntWalk.i64_in _ (by omega)]
    push_cast; rfl
  rw [HE1.out, HE2.out]
  have hA1 := HAR.out.1
  have hA2 : A ≤ 16000 := by have := HAR.out.2; omega
  clear hT hU hA hn hP hsr hx1
  go_enter Tryz.func232, Tryz.ntmps232
  go_wp2_with (first | (go_at_call 58; refine HA.out.mono ?_; rintro e w0 ⟨rfl, rfl⟩) | (go_at_call 291; refine HSM.out.mono ?_; rintro e w1 ⟨rfl, rfl⟩))
  go_loopw [6, 7, 8] (fun bv lv sv wr => ∃ k : Nat, sv = .int .i64 (2 * (k : Int)) ∧ k ≤ P ∧ bv = .int .i64 ((T k).1 : Nat) ∧ lv = .int .i64 (T k).2 ∧ Hid (Below w.heap.size w wr)) (fun _ _ sv _ => 2 * P + 1 - (intOf sv).toNat)
  case atStart => exact ⟨0, rfl, Nat.zero_le _, by rw [HK0.out]; rfl, by rw [HK0.out], Lib.hid (Below.refl _ _)⟩
  case round =>
    obtain ⟨k, rfl, hk, rfl, rfl, HB⟩ := hrel
    obtain ⟨wo, rfl⟩ : ∃ wo, wo = wr := ⟨wr, rfl⟩
    by_cases hlt : k < P
    · have hltI : 2 * (k : Int) < 2 * (P : Int) := by omega
      have HDG := Lib.hid (digI_any (2 * k) (by omega) wo)
      rw [show ((2 * k : Nat) : Int) = 2 * (k : Int) by push_cast; rfl] at HDG
      have HDL := Lib.hid (fun i (hi : i ∈ digN (2 * k)) => dig_lt (s := 2 * k) (n := n) (by rw [HPW.out]; omega) hi)
      have HDN := Lib.hid (show (digN (2 * k)).length ≤ 20 from digK_len (2 * k) 20)
      have hS := HK.out k
      have hzo := HB.out.size
      obtain ⟨L, hL⟩ : ∃ L, L = digN (2 * k) := ⟨_, rfl⟩
      rw [← hL] at HDG HDL HDN hS
      obtain ⟨m, hm⟩ : ∃ m, m = L.length := ⟨_, rfl⟩
      have HM := Lib.hid hm.symm
      rw [← hm] at HDN hS
      have hm20 := HDN.out
      have HSK := Lib.hid hS
      clear hL hm hS
      go_wp2_with (go_at_call 69; refine HDG.out.mono ?_; rintro e w2 ⟨u, rfl, ho, hb2⟩; obtain ⟨ua, uc, hu⟩ := ho.rd.shape; rw [idxs_len, HM.out] at hu; subst hu)
      have HB2 := Lib.hid (HB.out.trans (hb2.mono hzo))
      have HO2 := Lib.hid ho.rd
      clear ho hb2
      go_loopw [9, 29] (fun hv jv wr => ∃ j : Nat, jv = .int .i64 j ∧ j ≤ m ∧ hv = .int .i64 (U L j) ∧ w2 = wr) (fun _ jv _ => m + 1 - (intOf jv).toNat)
      case atStart => exact ⟨0, rfl, Nat.zero_le _, by rw [HSS0.out], rfl⟩
      case round =>
        obtain ⟨j, rfl, hj, rfl, rfl⟩ := hrel
        have hUj := HSR.out L j
        by_cases hjm : j < m
        · have hjI : (j : Int) < (m : Int) := by omega
          obtain ⟨ob, oo, rfl, _, c1⟩ := HO2.out.at (i := j) (by rw [idxs_len, HM.out]; exact hjm)
          have hLj : (idxs L).getD j 0 = ((L.getD j 0 : Nat) : Int) := by
            unfold idxs
            rw [List.getD_eq_getElem?_getD, List.getElem?_map, List.getD_eq_getElem?_getD, List.getElem?_eq_getElem (by rw [HM.out]; exact hjm)]
            rfl
          rw [hLj] at c1
          have hin := HDL.out (L.getD j 0) (by rw [List.getD_eq_getElem?_getD, List.getElem?_eq_getElem (by rw [HM.out]; exact hjm)]; exact List.getElem_mem _)
          have hS := HSS.out L j
          have hU1 := HSR.out L (j + 1)
          rw [hS] at hU1
          obtain ⟨i, hi⟩ : ∃ i, i = L.getD j 0 := ⟨_, rfl⟩
          rw [← hi] at c1 hin hS hU1
          obtain ⟨xb, xo, rfl, _, c2⟩ := (HRC.out w2 HB2.out).at (i := i) (by rw [HN.out]; exact hin)
          obtain ⟨y, hy⟩ : ∃ y, y = xs.getD i 0 := ⟨_, rfl⟩
          rw [← hy] at c2 hS hU1
          obtain ⟨z, hz⟩ : ∃ z, z = U L j := ⟨_, rfl⟩
          rw [← hz] at hS hUj hU1 ⊢
          have HSJ := Lib.hid hS
          have hiI : (i : Int) < (n : Int) := by omega
          have hadd : IntKind.i64.wrap (z + y) = z + y := IntWalk.i64_in _ (by push_cast at *; omega)
          clear hi hy hz hS hLj hUj hU1
          go_wp2_with fail
          go_roundw
          case rel => exact ⟨j + 1, by go_num, by omega, by rw [HSJ.out], by first | rfl | trivial⟩
          case measure => simp [intOf]; omega
        · obtain rfl : j = m := by omega
          have hSK := HSK.out
          obtain ⟨z, hz⟩ : ∃ z, z = U L j := ⟨_, rfl⟩
          rw [← hz] at hSK hUj ⊢
          have hz1 := hUj.1
          have hz2 : z ≤ 20000 := by have := hUj.2; omega
          obtain ⟨⟨be, le⟩, hp⟩ : ∃ p, p = T k := ⟨_, rfl⟩
          rw [← hp] at hSK ⊢
          simp only at hSK ⊢
          have h1 : IntKind.i64.wrap (2 * z) = 2 * z := IntWalk.i64_in _ (by omega)
          have h2 : IntKind.i64.wrap (A - 2 * z) = A - 2 * z := IntWalk.i64_in _ (by omega)
          have h3 : IntKind.i64.wrap (2 * z - A) = 2 * z - A := IntWalk.i64_in _ (by omega)
          obtain ⟨y, hy⟩ : ∃ y, y = max (A - 2 * z) (2 * z - A) := ⟨_, rfl⟩
          have hw4 : IntKind.i64.wrap (2 * (k : Int) + 2) = 2 * ((k + 1 : Nat) : Int) := by rw [IntWalk.i64_in _ (by omega)]; push_cast; omega
          clear hz hp hUj
          by_cases hyl : y < le
          · have hyl' : max (A - 2 * z) (2 * z - A) < le := by rw [← hy]; exact hyl
            rw [if_pos hyl'] at hSK
            have HSK2 := Lib.hid hSK
            clear hSK hy hyl
            go_wp2_with fail
            go_roundw
            case rel => exact ⟨k + 1, by first | rfl | (congr 1; push_cast; omega), by omega, by rw [HSK2.out]; push_cast; rfl, by rw [HSK2.out], HB2⟩
            case measure => simp [intOf]; omega
          · have hyl' : ¬ max (A - 2 * z) (2 * z - A) < le := by rw [← hy]; exact hyl
            rw [if_neg hyl'] at hSK
            have HSK2 := Lib.hid hSK
            clear hSK hy hyl
            go_wp2_with fail
            go_roundw
            case rel => exact ⟨k + 1, by first | rfl | (congr 1; push_cast; omega), by omega, by rw [HSK2.out], by rw [HSK2.out], HB2⟩
            case measure => simp [intOf]; omega
    · obtain rfl : k = P := by omega
      have hnl : ¬ 2 * (k : Int) < 2 * (k : Int) := by omega
      have hbl := HLT.out k
      have HDG := Lib.hid (digI_any (T k).1 (by omega) wo)
      clear hbl
      go_wp2_with (go_at_call 69; refine HDG.out.mono ?_; rintro e w2 ⟨u, rfl, ho, hb2⟩)
      go_ret3
      exact ⟨_, rfl, ho.wide HB.out.size (Nat.le_refl _), HB.out.trans (hb2.mono HB.out.size)⟩
end Go.Proofs.YtgkbbpajkbkgnaaGreatDoor
