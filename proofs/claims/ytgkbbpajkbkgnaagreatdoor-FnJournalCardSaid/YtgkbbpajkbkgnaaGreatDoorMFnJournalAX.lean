/-
  FnJournal: texts joined: LsI, DueI, OntM, Del, OntI.
-/
import Derived.Shelf.SlicesE.Delete
import Derived.Test.YtgkbbpajkbkgnaaGreatDoorMFnJournalAE
import Derived.Test.YtgkbbpajkbkgnaaGreatDoorMFnJournalAF
import Derived.Test.YtgkbbpajkbkgnaaGreatDoorMFnJournalAP
import Derived.Test.YtgkbbpajkbkgnaaGreatDoorMFnJournalAW
set_option linter.unusedVariables false
set_option linter.unusedSimpArgs false
namespace Go.Proofs.YtgkbbpajkbkgnaaGreatDoor
open Go.RowKit Go.Sort
set_option maxHeartbeats 4000000 in
set_option maxRecDepth 8000 in
theorem leastSpan_any (js : List JobD) (hok : areJobsB js = true) (m : Nat) (hm : 1 ≤ m) (hm8 : m ≤ 8) : ∀ (f : Nat) (used : List Int) (v u : Value) (w : World), f ≤ js.length → RdJ w v js → RdI w u used → used.length = m → (∀ k, 0 ≤ used.getD k 0 ∧ used.getD k 0 ≤ 1000 * ((js.length - f : Nat) : Int)) →
    Calls Tryz.prog 315 #[v, u, .int .i64 ((js.length - f : Nat) : Int)] w fun e w' => e = .returned (.int .i64 (spanR js f used)) ∧ Below w.heap.size w w'
  | 0, used, v, u, w, hf, h, hu, hl, hr => by
    obtain ⟨va, vc, rfl⟩ := h.shape
    have HMX := Lib.hid (maxI_any u used w hu (by omega))
    have HE := Lib.hid (show spanR js 0 used = maxL used from rfl)
    rw [Nat.sub_zero]
    have hee : ((js.length : Int) == (js.length : Int)) = true := by simp
    clear h hr
    go_enter Tryz.func315, Tryz.ntmps315
    go_wp2_with (go_at_call 62; refine HMX.out.mono ?_; rintro e w3 ⟨rfl, rfl⟩)
    go_ret
    exact ⟨by rw [HE.out]; rfl, Below.refl _ _⟩
  | f + 1, used, v, u, w, hf, h, hu, hl, hr => by
    have hrec := leastSpan_any js hok m hm hm8 f
    obtain ⟨hn1, hn2, hjf⟩ := jobs_all hok
    obtain ⟨va, vc, rfl⟩ := h.shape
    obtain ⟨ua, uc, rfl⟩ := hu.shape
    obtain ⟨i, hi⟩ : ∃ i, i = js.length - (f + 1) := ⟨_, rfl⟩
    have hi1 : js.length - f = i + 1 := by omega
    have hin : i < js.length := by omega
    rw [hi1] at hrec
    rw [← hi] at hr ⊢
    have HR := Lib.hid h
    have HU := Lib.hid hu
    have HRR := Lib.hid hr
    have HLL := Lib.hid hl
    obtain ⟨l, hl'⟩ : ∃ l, l = (js.getD i J0).long := ⟨_, rfl⟩
    have hlb : 0 ≤ l ∧ l ≤ 1000 := by have := hjf i hin; rw [hl']; omega
    have HE := Lib.hid (show spanR js (f + 1) used = (spanK (spanR js f) l used m).1 by rw [hl', hi, ← hl]; rfl)
    have HCJ := Lib.hid (fun X (hb : Below w.heap.size w X) => show ∃ jb jo, va = some ⟨jb, jo, none⟩ ∧ X.cell? ⟨jb, jo + i * 4, none⟩ = some (.int .i64 l) by
      obtain ⟨jb, jo, rfl, _, cj, _⟩ := (h.up hb (Nat.le_refl _)).at (i := i) hin
      exact ⟨jb, jo, rfl, by rw [hl']; exact cj⟩)
    have HST := Lib.hid (fun k => show spanK (spanR js f) l used (k + 1) = if (spanK (spanR js f) l used k).2 = true then spanK (spanR js f) l used k else
      (if (spanK (spanR js f) l used k).1 < 0 ∨ spanR js f (used.set k (used.getD k 0 + l)) < (spanK (spanR js f) l used k).1 then spanR js f (used.set k (used.getD k 0 + l)) else (spanK (spanR js f) l used k).1, used.getD k 0 == 0) from rfl)
    have HSP := Lib.hid (fun k (h : (spanK (spanR js f) l used k).2 = true) (hk : k ≤ m) => spanK_stop h m hk)
    have HRC := Lib.hid (fun k (hk : k < m) X u' (hb : Below w.heap.size w X) (hu' : RdI X u' (used.set k (used.getD k 0 + l))) => hrec (used.set k (used.getD k 0 + l)) (.slice va js.length vc) u' X (by omega) (h.up hb (Nat.le_refl _)) hu' (by rw [List.length_set]; exact hl) (fun k' => by
      rw [List.getD_eq_getElem?_getD, List.getElem?_set]
      have a := hr k
      have b := hr k'
      rw [List.getD_eq_getElem?_getD] at b
      by_cases e1 : k = k'
      · by_cases e2 : k < used.length
        · rw [if_pos e1, if_pos e2]
          simp only [Option.getD_some]
          push_cast
          omega
        · rw [if_pos e1, if_neg e2]
          show (0 : Int) ≤ 0 ∧ (0 : Int) ≤ 1000 * ((i + 1 : Nat) : Int)
          omega
      · rw [if_neg e1]
        push_cast
        omega))
    obtain ⟨T, hT⟩ : ∃ T, T = spanK (spanR js f) l used := ⟨_, rfl⟩
    obtain ⟨rec, hrc⟩ : ∃ T, T = spanR js f := ⟨_, rfl⟩
    have HT0 := Lib.hid (show T 0 = (-1, false) by rw [hT]; rfl)
    rw [← hT] at HE HST HSP
    rw [← hrc] at HST HRC
    obtain ⟨n, hn⟩ : ∃ n, n = js.length := ⟨_, rfl⟩
    rw [← hn] at HR HRC hin hn2 ⊢
    rw [hl] at HU ⊢
    have hne : ((i : Int) == (n : Int)) = false := by rw [beq_eq_false_iff_ne]; omega
    have hi1' : IntKind.i64.wrap ((i : Int) + 1) = ((i + 1 : Nat) : Int) := by rw [IntWalk.i64_in _ (by omega)]; push_cast; rfl
    have hinI : (i : Int) < (n : Int) := by omega
    clear h hu hr hl hrec hjf hok hi hl' hT hrc hn hi1
    go_enter Tryz.func315, Tryz.ntmps315
    go_wp2_with fail
    go_loopw [7, 20] (fun bv kv wr => ∃ k : Nat, kv = .int .i64 k ∧ k ≤ m ∧ bv = .int .i64 (T k).1 ∧ Hid ((T k).2 = false) ∧ Hid (Below w.heap.size w wr)) (fun _ kv _ => m + 1 - (intOf kv).toNat)
    case atStart => exact ⟨0, rfl, Nat.zero_le _, by rw [HT0.out], Lib.hid (by rw [HT0.out]), Lib.hid (Below.refl _ _)⟩
    case round =>
      obtain ⟨k, rfl, hk, rfl, HF, HB⟩ := hrel
      obtain ⟨wo, rfl⟩ : ∃ wo, wo = wr := ⟨wr, rfl⟩
      by_cases hlt : k < m
      · have hltI : (k : Int) < (m : Int) := by omega
        obtain ⟨ub, uo, rfl, _, cu⟩ := (HU.out.up HB.out (Nat.le_refl _)).at (i := k) (by rw [HLL.out]; exact hlt)
        have hS := HST.out k
        rw [HF.out, if_neg Bool.false_ne_true] at hS
        have HRK := Lib.hid (fun X u' hb hu' => HRC.out k hlt X u' hb hu')
        have hub := HRR.out k
        obtain ⟨x, hx⟩ : ∃ x, x = used.getD k 0 := ⟨_, rfl⟩
        rw [← hx] at cu hS HRK hub
        obtain ⟨l2, hl2⟩ : ∃ l2, l2 = used.set k (x + l) := ⟨_, rfl⟩
        rw [← hl2] at hS HRK
        obtain ⟨en, hen⟩ : ∃ en, en = rec l2 := ⟨_, rfl⟩
        have HRE := Lib.hid (fun X u' hb hu' => HRK.out X u' hb hu')
        rw [← hen] at hS
        have HX := Lib.hid hx
        have HL2 := Lib.hid hl2
        have HEN := Lib.hid hen.symm
        have HSS := Lib.hid hS
        have hadd : IntKind.i64.wrap (x + l) = x + l := IntWalk.i64_in _ (by omega)
        have HCP := Lib.hid (copyInts_any (some ⟨ub, uo, none⟩) uc used wo (by rw [HLL.out]; exact HU.out.up HB.out (Nat.le_refl _)) (by rw [HLL.out]; omega))
        rw [HLL.out] at HCP
        clear hx hl2 hen hS hub
        go_upto_region 8 with (go_at_call 123; refine HCP.out.mono ?_; rintro e w2 ⟨g, gc, rfl, hog, hb2⟩)
        have HB2 := Lib.hid (HB.out.trans (hb2.mono HB.out.size))
        obtain ⟨jb, jo, rfl, cj⟩ := HCJ.out w2 HB2.out
        have c1 : w2.cell? ⟨g, k, none⟩ = some (.int .i64 x) := by
          have hkl : k < used.length := by rw [HLL.out]; exact hlt
          rw [hog.cellAt k (by omega), List.getElem?_map, List.getElem?_eq_getElem hkl, HX.out, List.getD_eq_getElem?_getD, List.getElem?_eq_getElem hkl]
          rfl
        have c2 := hog.frozenAt k
        have HOG := Lib.hid hog
        have hgw : wo.heap.size ≤ g := (hog.lt g rfl).1
        have hzo := HB.out.size
        clear hog cu hb2
        have HB3 := Lib.hid (show Below w.heap.size w (w2.drew.setCell ⟨g, k, none⟩ (.int .i64 (x + l))) from HB2.out.drew.setCell (by show w.heap.size ≤ g; omega) _)
        have HU3 := Lib.hid (show RdI (w2.drew.setCell ⟨g, k, none⟩ (.int .i64 (x + l))) (.slice (some ⟨g, 0, none⟩) m gc) l2 from slc_of_owns (by rw [HL2.out, List.map_set]; exact ((owns_drew HOG.out).stored k (.int .i64 (x + l))).1))
        have HCL := Lib.hid (HRE.out _ _ HB3.out HU3.out)
        rw [HEN.out] at HCL
        have hz3 : w.heap.size ≤ (w2.drew.setCell ⟨g, k, none⟩ (.int .i64 (x + l))).heap.size := HB3.out.size
        have HFI := Lib.hid (fun W (hb4 : Below (w2.drew.setCell ⟨g, k, none⟩ (.int .i64 (x + l))).heap.size (w2.drew.setCell ⟨g, k, none⟩ (.int .i64 (x + l))) W) => HB3.out.trans (hb4.mono hz3))
        obtain ⟨b, hb⟩ : ∃ b, b = (T k).1 := ⟨_, rfl⟩
        rw [← hb] at HSS ⊢
        clear hb HRE HRK HRC HCP HU HR HCJ
        obtain ⟨zb, hzb⟩ : ∃ zb, (x == 0) = zb := ⟨_, rfl⟩
        rw [hzb] at HSS
        have hcase : b < 0 ∨ (¬ b < 0 ∧ en < b) ∨ (¬ b < 0 ∧ ¬ en < b) := by omega
        obtain ⟨nb, hnb⟩ : ∃ nb, nb = (if b < 0 ∨ en < b then en else b) := ⟨_, rfl⟩
        rw [← hnb] at HSS
        have hnb1 : (b < 0 ∨ en < b) → nb = en := fun h => by rw [hnb, if_pos h]
        have hnb2 : ¬ (b < 0 ∨ en < b) → nb = b := fun h => by rw [hnb, if_neg h]
        have HN1 := Lib.hid hnb1
        have HN2 := Lib.hid hnb2
        clear hnb hnb1 hnb2
        have HGO := Lib.hid (show zb = false → Hid ((T (k + 1)).2 = false) from fun h => Lib.hid (by rw [HSS.out, h]))
        have HST1 := Lib.hid (show (T (k + 1)).1 = nb by rw [HSS.out])
        have HSTP := Lib.hid (show zb = true → T m = T (k + 1) from fun h => HSP.out (k + 1) (by rw [HSS.out, h]) (by omega))
        rcases hcase with h1 | ⟨h1, h2⟩ | ⟨h1, h2⟩
        · obtain rfl : nb = en := HN1.out (.inl h1)
          cases zb
          · go_region_law (fail)
            all_goals
              go_wp2_with (go_at_call 315; refine HCL.out.mono ?_; rintro e w4 ⟨rfl, hb4⟩)
              go_roundw
              case rel => exact ⟨k + 1, by go_num, by omega, by rw [HST1.out], HGO.out (by first | rfl | trivial), Lib.hid (HFI.out _ hb4)⟩
              case measure => simp [intOf]; omega
          · go_region_law (fail)
            all_goals
              go_wp2_with (go_at_call 315; refine HCL.out.mono ?_; rintro e w4 ⟨rfl, hb4⟩)
              go_ret
              exact ⟨by rw [HE.out, HSTP.out (by first | rfl | trivial), HST1.out]; rfl, HFI.out _ hb4⟩
        · obtain rfl : nb = en := HN1.out (.inr h2)
          cases zb
          · go_region_law (fail)
            all_goals
              go_wp2_with (go_at_call 315; refine HCL.out.mono ?_; rintro e w4 ⟨rfl, hb4⟩)
              go_roundw
              case rel => exact ⟨k + 1, by go_num, by omega, by rw [HST1.out], HGO.out (by first | rfl | trivial), Lib.hid (HFI.out _ hb4)⟩
              case measure => simp [intOf]; omega
          · go_region_law (fail)
            all_goals
              go_wp2_with (go_at_call 315; refine HCL.out.mono ?_; rintro e w4 ⟨rfl, hb4⟩)
              go_ret
              exact ⟨by rw [HE.out, HSTP.out (by first | rfl | trivial), HST1.out]; rfl, HFI.out _ hb4⟩
        · obtain rfl : nb = b := HN2.out (by omega)
          cases zb
          · go_region_law (fail)
            all_goals
              go_wp2_with (go_at_call 315; refine HCL.out.mono ?_; rintro e w4 ⟨rfl, hb4⟩)
              go_roundw
              case rel => exact ⟨k + 1, by go_num, by omega, by rw [HST1.out], HGO.out (by first | rfl | trivial), Lib.hid (HFI.out _ hb4)⟩
              case measure => simp [intOf]; omega
          · go_region_law (fail)
            all_goals
              go_wp2_with (go_at_call 315; refine HCL.out.mono ?_; rintro e w4 ⟨rfl, hb4⟩)
              go_ret
              exact ⟨by rw [HE.out, HSTP.out (by first | rfl | trivial), HST1.out]; rfl, HFI.out _ hb4⟩
      · obtain rfl : k = m := by omega
        go_wp2_with fail
        go_ret
        exact ⟨by rw [HE.out]; rfl, HB.out⟩
set_option maxHeartbeats 2000000 in
set_option maxRecDepth 8000 in
theorem lsI_any (v : Value) (js : List JobD) (m : Int) (w : World) (h : RdJ w v js) :
    Calls Tryz.prog 285 #[v, .int .i64 m] w fun e w' => e = .returned (.tuple #[.int .i64 (lsN js m), .bool (lsB js m)]) ∧ Below w.heap.size w w' := by
  obtain ⟨i0, hi, hz0, hz1, hz2⟩ := info_parts Tryz.infoI64
  obtain ⟨va, vc, rfl⟩ := h.shape
  have HM := Lib.hid (areMach_any _ js m w h)
  have HR := Lib.hid h
  have HB := Lib.hid (show lsB js m = (machB js m && decide (js.length ≤ 9)) from rfl)
  have HN := Lib.hid (show lsN js m = if lsB js m = true then spanR js js.length (List.replicate m.toNat 0) else 0 from rfl)
  obtain ⟨q, hq⟩ : ∃ q, machB js m = q := ⟨_, rfl⟩
  have HQ := Lib.hid hq
  rw [hq] at HM HB
  clear hq h
  cases q
  · go_enter Tryz.func285, Tryz.ntmps285
    go_wp2_with (go_at_call 71; refine HM.out.mono ?_; rintro e w1 ⟨rfl, hb1⟩)
    go_ret2
    have e : lsB js m = false := HB.out
    exact ⟨by rw [HN.out, e]; rfl, hb1⟩
  · by_cases hn : js.length ≤ 9
    · have hnI : ¬ (9 : Int) < (js.length : Int) := by omega
      have hp := HQ.out
      unfold machB at hp
      rw [Bool.and_eq_true, inB_iff] at hp
      obtain ⟨hjo, hm1, hm8⟩ := hp
      obtain ⟨M, rfl⟩ := Int.eq_ofNat_of_zero_le (show 0 ≤ m by omega)
      have HE := Lib.hid (show lsB js (M : Int) = true by rw [HB.out, decide_eq_true hn]; rfl)
      have HV := Lib.hid (show lsN js (M : Int) = spanR js js.length (List.replicate M 0) by rw [HN.out, HE.out]; rfl)
      have HL := Lib.hid (fun u X (hb : Below w.heap.size w X) (hu : RdI X u (List.replicate M 0)) => leastSpan_any js hjo M (by omega) (by omega) js.length (List.replicate M 0) (.slice va js.length vc) u X (Nat.le_refl _) (HR.out.up hb (Nat.le_refl _)) hu (by simp) (fun k => by
        rw [List.getD_eq_getElem?_getD, List.getElem?_replicate]
        split <;> simp))
      rw [Nat.sub_self] at HL
      have hM1 : 1 ≤ M := by omega
      have hM8 : M ≤ 8 := by omega
      clear hjo hm1 hm8
      go_enter Tryz.func285, Tryz.ntmps285
      go_wp2_with (first
        | (go_at_call 71; refine HM.out.mono ?_; rintro e w1 ⟨rfl, hb1⟩)
        | (at_make; refine wpList_make_full _ rfl _ _ 27 rfl w1.heap.size 2 i0 (.int .i64 0) 1 Tryz.underlying27 hi hz0 hz1 .i64 .i64 M M M rfl rfl rfl rfl (by rw [hz2]; omega) (by simp [maxLen]; omega) (by simp) ?_; intro w2 hown hgrow; have hb2 : Below w.heap.size w w2 := hb1.trans (((Below.refl w1.heap.size w1).grown hgrow (Nat.le_refl _) (by intro k hk; cases hk)).mono hb1.size); have hz : (madeCells (Value.int .i64 0).cells (M * 1)).toList = (List.replicate M (0 : Int)).map I64 := (by rw [List.map_replicate]; show _ = List.replicate M (Value.int .i64 0); simpa [Value.cells] using toList_madeCells_one (Value.int .i64 0) M); rw [hz] at hown)
        | (go_at_call 315; refine (HL.out _ w2 hb2 (slc_of_owns hown)).mono ?_; rintro e w3 ⟨rfl, hb3⟩))
      go_ret2
      exact ⟨by rw [HV.out, HE.out]; rfl, hb2.trans (hb3.mono hb2.size)⟩
    · have hnI : (9 : Int) < (js.length : Int) := by omega
      have HE := Lib.hid (show lsB js m = false by rw [HB.out, decide_eq_false hn]; rfl)
      clear hn
      go_enter Tryz.func285, Tryz.ntmps285
      go_wp2_with (go_at_call 71; refine HM.out.mono ?_; rintro e w1 ⟨rfl, hb1⟩)
      go_ret2
      exact ⟨by rw [HN.out, HE.out]; rfl, hb1⟩
end Go.Proofs.YtgkbbpajkbkgnaaGreatDoor

namespace Go.Proofs.YtgkbbpajkbkgnaaGreatDoor
open Go.RowKit
def dueL (js : List JobD) : List Int := if areJobsB js = true then idxs (ordL (dueK js) js.length) else []
set_option maxHeartbeats 1000000 in
theorem dueI_any (v : Value) (js : List JobD) (w : World) (h : RdJ w v js) :
    Calls Tryz.prog 22 #[v] w fun e w' => ∃ u, e = .returned (.tuple #[u, .bool (areJobsB js)]) ∧ OwnI w.heap.size w'.heap.size w' u (dueL js) ∧ Below w.heap.size w w' := by
  have HA := Lib.hid (AreJobs_any v js w h)
  obtain ⟨q, hq⟩ : ∃ q, areJobsB js = q := ⟨_, rfl⟩
  have HQ := Lib.hid hq
  rw [hq] at HA ⊢
  clear hq
  cases q
  · clear h
    go_enter Tryz.func22, Tryz.ntmps22
    go_wp2_with (go_at_call 51; refine HA.out.mono ?_; rintro e w1 ⟨rfl, hb1⟩)
    go_ret2
    exact ⟨_, rfl, by rw [show dueL js = [] by unfold dueL; rw [HQ.out]; rfl]; exact ⟨World.ownsRow_nil _ _ _ _, by intro g hg; cases hg⟩, hb1⟩
  · have hn : 1 ≤ js.length ∧ js.length ≤ 12 := by
      have := HQ.out
      unfold areJobsB at this
      rw [Bool.and_eq_true, inB_iff] at this
      omega
    have HD := Lib.hid (fun X (hb : Below w.heap.size w X) => dueOrder_any js v X (h.up hb (Nat.le_refl _)) hn.1 hn.2)
    clear h hn
    go_enter Tryz.func22, Tryz.ntmps22
    go_wp2_with (first | (go_at_call 51; refine HA.out.mono ?_; rintro e w1 ⟨rfl, hb1⟩) | (go_at_call 68; refine (HD.out w1 hb1).mono ?_; rintro e w2 ⟨u, rfl, ho, hb2⟩))
    go_ret2
    exact ⟨_, rfl, by rw [show dueL js = idxs (ordL (dueK js) js.length) by unfold dueL; rw [HQ.out]; rfl]; exact ho.wide hb1.size (Nat.le_refl _), hb1.trans (hb2.mono hb1.size)⟩
end Go.Proofs.YtgkbbpajkbkgnaaGreatDoor

namespace Go.Proofs.YtgkbbpajkbkgnaaGreatDoor
open Go.RowKit Go.Sort
def longK (js : List JobD) (x : Nat) : Int := (js.getD x J0).long
def mostN (f : Nat → Int) : Nat → Nat
  | 0 => 0
  | k + 1 => if f (mostN f k) < f k then k else mostN f k
theorem mostN_lt (f : Nat → Int) : ∀ k, 0 < k → mostN f k < k
  | 0, h => absurd h (by omega)
  | k + 1, _ => by
    simp only [mostN]
    split
    · omega
    · cases k with
      | zero => simp [mostN]
      | succ k => have := mostN_lt f (k + 1) (by omega); omega
theorem mostN_le (f : Nat → Int) (k : Nat) : mostN f k ≤ k := by
  cases k with
  | zero => exact Nat.le_refl _
  | succ k => have := mostN_lt f (k + 1) (by omega); omega
def keptLong (js : List JobD) (K : List Nat) (k : Nat) : Int := longK js (K.getD k 0)
def longest (js : List JobD) (K : List Nat) : Nat := mostN (keptLong js K) K.length
def otStep (js : List JobD) (K A : List Nat) (t : Int) (i : Nat) : List Nat × List Nat × Int :=
  if t + longK js i ≤ (js.getD i J0).due then (K ++ [i], A, t + longK js i)
  else ((K ++ [i]).eraseIdx (longest js (K ++ [i])), A ++ [(K ++ [i]).getD (longest js (K ++ [i])) 0], t + longK js i - longK js ((K ++ [i]).getD (longest js (K ++ [i])) 0))
def otRun (js : List JobD) : List Nat → List Nat → List Nat → Int → List Nat × List Nat
  | [], K, A, _ => (K, A)
  | i :: r, K, A, t => otRun js r (otStep js K A t i).1 (otStep js K A t i).2.1 (otStep js K A t i).2.2
def ordJ (js : List JobD) : List Nat := ordL (dueK js) js.length
def otEnd (js : List JobD) : List Nat × List Nat := otRun js (ordJ js) [] [] 0
def otL (js : List JobD) : List Int := if areJobsB js = true then idxs ((otEnd js).1 ++ (otEnd js).2) else []
def otN (js : List JobD) : Int := if areJobsB js = true then ((otEnd js).1.length : Nat) else 0
theorem areJobs_facts {js : List JobD} (h : areJobsB js = true) : 1 ≤ js.length ∧ js.length ≤ 12 ∧ ∀ i, i < js.length → 1 ≤ longK js i ∧ longK js i ≤ 1000 ∧ 0 ≤ (js.getD i J0).due ∧ (js.getD i J0).due ≤ 100000 := by
  unfold areJobsB at h
  rw [Bool.and_eq_true, inB_iff, allB_iff] at h
  refine ⟨by omega, by omega, fun i hi => ?_⟩
  have := h.2 i hi
  unfold jobB at this
  simp only [Bool.and_eq_true, inB_iff] at this
  unfold longK
  omega
structure Ont (js : List JobD) (k : Nat) (K A : List Nat) (t : Int) : Prop where
  lens : K.length + A.length = k
  small : ∀ x, x ∈ K → x < js.length
  lo : -(1000 * (k : Int)) ≤ t
  hi : t ≤ 1000 * (k : Int)
  run : otRun js ((ordJ js).drop k) K A t = otEnd js
theorem Ont.start (js : List JobD) : Ont js 0 [] [] 0 := ⟨rfl, fun _ h => absurd h (by simp), by omega, by omega, rfl⟩
theorem ordJ_len (js : List JobD) : (ordJ js).length = js.length := ordL_len _ _
theorem ordJ_lt (js : List JobD) (k : Nat) (h : k < js.length) : (ordJ js).getD k 0 < js.length := by
  refine ordL_lt (dueK js) js.length _ ?_
  rw [List.getD_eq_getElem?_getD, List.getElem?_eq_getElem (by rw [ordJ_len]; exact h)]
  exact List.getElem_mem _
theorem Ont.next {js : List JobD} {k : Nat} {K A : List Nat} {t : Int} (h : Ont js k K A t) (hk : k < js.length) (i : Nat) (hi : i = (ordJ js).getD k 0) (hj : areJobsB js = true) :
    Ont js (k + 1) (otStep js K A t i).1 (otStep js K A t i).2.1 (otStep js K A t i).2.2 := by
  have hf := (areJobs_facts hj).2.2
  have hin : i < js.length := by rw [hi]; exact ordJ_lt js k hk
  have hl := hf i hin
  have hd : (ordJ js).drop k = i :: (ordJ js).drop (k + 1) := by
    have hlt : k < (ordJ js).length := by rw [ordJ_len]; exact hk
    rw [List.drop_eq_getElem_cons hlt, hi, List.getD_eq_getElem?_getD, List.getElem?_eq_getElem hlt]
    rfl
  have hrun := h.run
  rw [hd] at hrun
  have hK1 : ∀ x, x ∈ K ++ [i] → x < js.length := fun x hx => by
    rcases List.mem_append.1 hx with h1 | h1
    · exact h.small x h1
    · rw [List.mem_singleton.1 h1]; exact hin
  have h0 := h.lens
  have h1 := h.lo
  have h2 := h.hi
  by_cases ht : t + longK js i ≤ (js.getD i J0).due
  · have e : otStep js K A t i = (K ++ [i], A, t + longK js i) := if_pos ht
    rw [otRun, e] at hrun
    rw [e]
    exact ⟨by simp; omega, hK1, by simp; omega, by simp; omega, hrun⟩
  · have e := (show otStep js K A t i = _ from if_neg ht)
    rw [otRun, e] at hrun
    rw [e]
    have hm := mostN_lt (keptLong js (K ++ [i])) (K ++ [i]).length (by simp)
    have hx : (K ++ [i]).getD (longest js (K ++ [i])) 0 < js.length := by
      refine hK1 _ ?_
      unfold longest
      rw [List.getD_eq_getElem?_getD, List.getElem?_eq_getElem hm]
      exact List.getElem_mem _
    have hlx := hf _ hx
    refine ⟨?_, fun x hx => hK1 x (List.mem_of_mem_eraseIdx hx), ?_, ?_, hrun⟩
    · unfold longest
      simp only [List.length_append, List.length_singleton] at hm ⊢
      rw [List.length_eraseIdx, if_pos (by simpa using hm)]
      simp; omega
    · simp only; omega
    · simp only; omega
theorem Ont.done {js : List JobD} {K A : List Nat} {t : Int} (h : Ont js js.length K A t) : otEnd js = (K, A) := by
  have := h.run
  rw [List.drop_of_length_le (by rw [ordJ_len]; exact Nat.le_refl _)] at this
  exact this.symm
theorem otStep_len (js : List JobD) (K A : List Nat) (t : Int) (i : Nat) : (otStep js K A t i).1.length + (otStep js K A t i).2.1.length = K.length + A.length + 1 := by
  unfold otStep
  split
  · simp; omega
  · have hm := mostN_lt (keptLong js (K ++ [i])) (K ++ [i]).length (by simp)
    simp only [List.length_eraseIdx, List.length_append, List.length_singleton] at hm ⊢
    unfold longest
    simp only [List.length_append, List.length_singleton]
    rw [if_pos hm]
    omega
theorem otRun_len (js : List JobD) : ∀ (r K A : List Nat) (t : Int), (otRun js r K A t).1.length + (otRun js r K A t).2.length = K.length + A.length + r.length
  | [], K, A, t => rfl
  | i :: r, K, A, t => by
    rw [otRun, otRun_len js r, otStep_len]
    simp; omega
theorem idxs_app (L M : List Nat) : idxs (L ++ M) = idxs L ++ idxs M := by unfold idxs; rw [List.map_append]
theorem idxs_erase (L : List Nat) (m : Nat) : idxs (L.eraseIdx m) = (idxs L).eraseIdx m := by
  unfold idxs
  rw [List.eraseIdx_eq_take_drop_succ, List.eraseIdx_eq_take_drop_succ, List.map_append, List.map_take, List.map_drop]
theorem idxs_at (L : List Nat) (k : Nat) (h : k < L.length) : (idxs L).getD k 0 = ((L.getD k 0 : Nat) : Int) := by
  unfold idxs
  rw [List.getD_eq_getElem?_getD, List.getD_eq_getElem?_getD, List.getElem?_map, List.getElem?_eq_getElem h]
  rfl
def Own2 (B : Nat) (w : World) (kv av : Value) (xs ys : List Int) : Prop :=
  w.ownsRow B 2 1 kv xs.length (xs.map I64) ∧ w.ownsRow B 2 1 av ys.length (ys.map I64) ∧ ∀ g, kv.ownBlock = some g → av.ownBlock ≠ some g
theorem Own2.symm {B : Nat} {w : World} {kv av : Value} {xs ys : List Int} (h : Own2 B w kv av xs ys) : Own2 B w av kv ys xs := ⟨h.2.1, h.1, fun g h1 h2 => h.2.2 g h2 h1⟩
theorem Own2.up {B C : Nat} {w w' : World} {kv av : Value} {xs ys : List Int} (h : Own2 B w kv av xs ys) (hb : Below C w w') (hC : w.heap.size ≤ C) : Own2 B w' kv av xs ys := ⟨owns_below h.1 hb hC, owns_below h.2.1 hb hC, h.2.2⟩
theorem Own2.grow {B : Nat} {w w0 w' : World} {kv av : Value} {xs ys zs : List Int} {a' : Option Addr} {m c' : Nat} (h : Own2 B w0 kv av xs ys) (h0 : Below w0.heap.size w0 w) (ho : w'.ownsRow B 2 1 (.slice a' m c') m (zs.map I64)) (hm : m = zs.length)
    (hg : w.grownBy w' kv.ownBlock) (hb : (Value.slice a' m c').ownBlock = kv.ownBlock ∨ (Value.slice a' m c').ownBlock = some w.heap.size) : Own2 B w' (.slice a' m c') av zs ys := by
  subst hm
  have hav := owns_below h.2.1 h0 (Nat.le_refl _)
  have hs := h0.size
  refine ⟨ho, owns_kept (S := fun k => kv.ownBlock = some k) hav ⟨hg.os, hg.tape, hg.output, hg.size, fun k hk hs => hg.block k hk fun e => hs e.symm⟩ (fun g h1 h2 => h.2.2 g h2 h1), fun g h1 h2 => ?_⟩
  rcases hb with hb | hb
  · exact h.2.2 g (by rw [← hb]; exact h1) h2
  · have := (owns_lt h.2.1 h2).2
    rw [h1] at hb
    injection hb with hb
    omega
theorem Own2.cut {B g c c' m m' : Nat} {w w' : World} {av : Value} {xs ys zs : List Int} (h : Own2 B w (.slice (some ⟨g, 0, none⟩) m c) av xs ys) (ho : w'.ownsRow B 2 1 (.slice (some ⟨g, 0, none⟩) m' c') m' (zs.map I64)) (hm : m' = zs.length) (hk : Kept (· = g) w w') : Own2 B w' (.slice (some ⟨g, 0, none⟩) m' c') av zs ys := by
  subst hm
  exact ⟨ho, owns_kept h.2.1 hk (fun k h1 h2 => h.2.2 g rfl (by rw [← h2]; exact h1)), fun k h1 => h.2.2 k h1⟩
end Go.Proofs.YtgkbbpajkbkgnaaGreatDoor

namespace Go.Proofs.YtgkbbpajkbkgnaaGreatDoor
open Go.RowKit Go.Sort
def Tryz.delRen : Go.Shelf.Ren := ⟨fun | 45 => 295 | n => n, fun | 23 => 2 | 22 => 27 | 3 => 3 | 4 => 4 | 0 => 0 | n => n, fun | n => n⟩
theorem Tryz.laysDel : Go.Proofs.SlLaysE.n45 Tryz.prog Tryz.delRen := {
  mixed := by kernel_rfl
  f45 := ⟨Tryz.f295.name, by decide, Tryz.func295.trans (congrArg some (by kernel_rfl))⟩
  t0 := Tryz.underlying0
  a0 := Tryz.isAgg0
  z0 := Tryz.sizeOf0
  v0 := Tryz.zeroValue0
  t3 := Tryz.underlying3
  a3 := Tryz.isAgg3
  z3 := Tryz.sizeOf3
  v3 := Tryz.zeroValue3
  t4 := Tryz.underlying4
  a4 := Tryz.isAgg4
  z4 := Tryz.sizeOf4
  v4 := Tryz.zeroValue4
  t22 := Tryz.underlying27
  a22 := Tryz.isAgg27
  z22 := Tryz.sizeOf27
  v22 := Tryz.zeroValue27
  a23 := Tryz.isAgg2
  z23 := Tryz.sizeOf2 }
theorem delete_any (lo g cap m : Nat) (xs : List Int) (w : World) (ho : w.ownsRow lo 2 1 (.slice (some ⟨g, 0, none⟩) xs.length cap) xs.length (xs.map I64)) (hm : m < xs.length) (hlo : lo ≤ w.heap.size) :
    Calls Tryz.prog 295 #[.slice (some ⟨g, 0, none⟩) xs.length cap, .int .i64 m, .int .i64 ((m + 1 : Nat) : Int)] w fun e w' => e = .returned (.slice (some ⟨g, 0, none⟩) (xs.length - 1) cap) ∧ w'.ownsRow lo 2 1 (.slice (some ⟨g, 0, none⟩) (xs.length - 1) cap) (xs.length - 1) ((xs.eraseIdx m).map I64) ∧ Kept (· = g) w w' := by
  obtain ⟨i0, hi, hz0, hz1, hz2⟩ := info_parts Tryz.infoI64
  obtain ⟨g', cap', e, hbg, hgl, hnc, hcm, _, hH⟩ := Lib.holds_of_ownsRow (enc := I64) ho (by intro e; cases e)
  injection e with e1 _ e2
  injection e1 with e1
  injection e1 with e1
  subst e1; subst e2
  have hs : (xs.toArray).size = xs.length := by simp
  have hr := AnyE.slices_Delete Tryz.laysDel I64 (fun _ => rfl) 0 Tryz.zeroValue2 i0 hi hz1 g 0 cap m (m + 1) xs.toArray w hH (by rw [hs]; exact hnc) (by simp only [maxLen] at hcm; omega) (by omega) (by rw [hs]; omega)
  rw [hs] at hr
  refine hr.mono ?_
  rintro e w' ⟨rfl, q, rfl⟩
  have e3 : xs.length - (m + 1 - m) = xs.length - 1 := by omega
  have e4 : m + 1 - m = 1 := by omega
  rw [e3, e4]
  have hlen : (xs.take m ++ xs.drop (m + 1) ++ List.replicate 1 (0 : Int)).length = xs.length := by simp; omega
  have hx := Lib.ownsRow_putRow (q := q) (k := xs.length - 1) ho hlen (by omega)
  have e5 : (xs.take m ++ xs.drop (m + 1) ++ List.replicate 1 (0 : Int)).take (xs.length - 1) = xs.eraseIdx m := by
    rw [← List.eraseIdx_eq_take_drop_succ, List.take_append_of_le_length (by rw [List.length_eraseIdx, if_pos hm]; exact Nat.le_refl _), List.take_of_length_le (by rw [List.length_eraseIdx, if_pos hm]; exact Nat.le_refl _)]
  rw [e5] at hx
  refine ⟨rfl, hx, ?_⟩
  refine ⟨rfl, rfl, rfl, by simp [putRow, mapBlock, Sort.ahead], fun k hk hn => ?_⟩
  simp [putRow, mapBlock, Sort.ahead, Array.getElem?_modify, Ne.symm hn]
end Go.Proofs.YtgkbbpajkbkgnaaGreatDoor

namespace Go.Proofs.YtgkbbpajkbkgnaaGreatDoor
open Go.RowKit Go.Sort
theorem RdJ.drewN2 {w : World} {v : Value} {js : List JobD} (h : RdJ w v js) (n : Nat) : RdJ (w.drewN n) v js := h.up (below_drewN (Below.refl w.heap.size w) n) (Nat.le_refl _)
theorem own2_cell {B g c m k : Nat} {w : World} {xs : List Nat} (h : w.ownsRow B 2 1 (.slice (some ⟨g, 0, none⟩) m c) m ((idxs xs).map I64)) (hk : k < xs.length) : w.cell? ⟨g, k, none⟩ = some (.int .i64 ((xs.getD k 0 : Nat) : Int)) := by
  obtain ⟨b, off, e, _, hc⟩ := (show RdI w (.slice (some ⟨g, 0, none⟩) m c) (idxs xs) from slc_of_owns h).at (i := k) (by rw [idxs_len]; exact hk)
  simp only [Option.some.injEq, Addr.mk.injEq, and_true] at e
  obtain ⟨rfl, rfl⟩ := e
  rw [Nat.zero_add] at hc
  rw [hc, idxs_at xs k hk]
set_option maxHeartbeats 2000000 in
set_option maxRecDepth 4000 in
theorem otI_any (v : Value) (js : List JobD) (w : World) (h : RdJ w v js) :
    Calls Tryz.prog 235 #[v] w fun e w' => ∃ u, e = .returned (.tuple #[u, .int .i64 (otN js), .bool (areJobsB js)]) ∧ OwnI w.heap.size w'.heap.size w' u (otL js) ∧ Below w.heap.size w w' := by
  obtain ⟨va, vc, rfl⟩ := h.shape
  have HA := Lib.hid (AreJobs_any _ js w h)
  have HR := Lib.hid h
  obtain ⟨q, hq⟩ : ∃ q, areJobsB js = q := ⟨_, rfl⟩
  rw [hq] at HA ⊢
  have HQ := Lib.hid hq
  clear hq h
  go_enter Tryz.func235, Tryz.ntmps235
  cases q
  · go_wp2_with (go_at_call 51; refine HA.out.mono ?_; rintro e w0 ⟨rfl, hb0⟩)
    go_ret3
    exact ⟨_, by rw [show otN js = 0 by unfold otN; rw [HQ.out]; rfl]; rfl, by rw [show otL js = [] by unfold otL; rw [HQ.out]; rfl]; exact ⟨World.ownsRow_nil _ _ _ _, by intro g hg; cases hg⟩, hb0⟩
  obtain ⟨hn1, hn2, hjf⟩ := areJobs_facts HQ.out
  have HJ := Lib.hid hjf
  have HD := Lib.hid (fun W (hb : Below w.heap.size w W) => dueOrder_any js _ W (HR.out.up hb (Nat.le_refl _)) hn1 hn2)
  clear hjf
  go_upto_region 5 with (go_at_call 51; refine HA.out.mono ?_; rintro e w0 ⟨rfl, hb0⟩)
  have HB0 := Lib.hid hb0
  clear hb0
  go_wp2_with (go_at_call 68; refine (HD.out _ HB0.out).mono ?_; rintro e w1 ⟨u, rfl, ho1, hb1⟩; obtain ⟨ua, uc, rfl⟩ := ho1.rd.shape; rw [show (idxs (ordL (dueK js) js.length)).length = js.length by rw [idxs_len, ordL_len]] at *)
  have HU := Lib.hid (ho1.wide HB0.out.size (Nat.le_refl _))
  have HB1 := Lib.hid (HB0.out.trans (hb1.mono HB0.out.size))
  clear ho1 hb1 HD HA
  go_loopw [5, 6, 7, 19] (fun kv av tv iv wr => ∃ (k : Nat) (K A : List Nat) (t : Int) (b : Option Addr) (c : Nat) (b2 : Option Addr) (c2 : Nat), iv = .int .i64 k ∧ k ≤ js.length ∧ kv = .slice b K.length c ∧ av = .slice b2 A.length c2 ∧ tv = .int .i64 t ∧ Hid (Ont js k K A t) ∧ Hid (Own2 w1.heap.size wr (.slice b K.length c) (.slice b2 A.length c2) (idxs K) (idxs A)) ∧ Hid (Below w1.heap.size w1 wr)) (fun _ _ _ iv _ => js.length + 1 - (intOf iv).toNat)
  case atStart => exact ⟨0, [], [], 0, none, 0, none, 0, rfl, Nat.zero_le _, rfl, rfl, rfl, Ont.start js, ⟨World.ownsRow_nil _ _ _ _, World.ownsRow_nil _ _ _ _, fun g hg => by cases hg⟩, Below.refl _ _⟩
  case round =>
    obtain ⟨k, K, A, t, b, c, b2, c2, rfl, hk, rfl, rfl, rfl, HO, HW, HB⟩ := hrel
    obtain ⟨wo, rfl⟩ : ∃ wo, wo = wr := ⟨wr, rfl⟩
    have hKl : K.length ≤ 12 := by have := HO.out.lens; omega
    have hAl : A.length ≤ 12 := by have := HO.out.lens; omega
    by_cases hlt : k < js.length
    · have hlt' : (k : Int) < js.length := by omega
      obtain ⟨db, dof, rfl, hdb, hd0⟩ := (HU.out.rd.up HB.out (Nat.le_refl _)).at (i := k) (by rw [idxs_len, ordL_len]; exact hlt)
      rw [idxs_at _ _ (by rw [ordL_len]; exact hlt)] at hd0
      obtain ⟨i, hi⟩ : ∃ i, i = (ordL (dueK js) js.length).getD k 0 := ⟨_, rfl⟩
      rw [← hi] at hd0
      have hin : i < js.length := by rw [hi]; exact ordJ_lt js k hlt
      have HI := Lib.hid hi
      have HN := Lib.hid (HO.out.next hlt i hi HQ.out)
      have ht1 := HO.out.lo
      have ht2 := HO.out.hi
      have hsz := HB.out.size
      clear hi
      have HW1 := Lib.hid (show wo.ownsRow w1.heap.size 2 1 (.slice b K.length c) K.length ((idxs K).map I64) by have := HW.out.1; rw [idxs_len] at this; exact this)
      go_upto_region 9 with (at_builtin; refine app_intsL rfl _ _ rfl w1.heap.size (.slice b K.length c) K.length (idxs K) rfl (HW1.out.alloc _) _ [(i : Int)] rfl (slc_one _ _) (K.length + 1) (idxs (K ++ [i])) (by simp) (by rw [idxs_app]; rfl) (by omega) (by simp; omega) ?_; intro b3 c3 w3 hown3 hbl3 hg3 hor3)
      have hal : Below wo.heap.size wo (wo.alloc (.cells #[.int .i64 (i : Int)] 2)) := (Below.refl _ _).alloc (Nat.le_refl _) _
      have HW3 := Lib.hid (HW.out.grow hal hown3 (show K.length + 1 = (idxs (K ++ [i])).length by rw [idxs_len]; simp) hg3 hor3)
      have HB3 := Lib.hid (HB.out.trans (((Below.refl _ _).alloc hsz _).trans hbl3))
      have HBw3 := Lib.hid (HB1.out.trans (HB3.out.mono HB1.out.size))
      obtain ⟨g, rfl, hg⟩ := owns_slice_some hown3 (by omega)
      clear hal hbl3 hg3 hor3 HW HB HW1 hdb hd0 hsz
      obtain ⟨K1, hK1⟩ : ∃ K1, K1 = K ++ [i] := ⟨_, rfl⟩
      have hK1l : K1.length = K.length + 1 := by rw [hK1]; simp
      rw [← hK1] at hown3 HW3
      have HO3 := Lib.hid hown3
      have HK1 := Lib.hid hK1
      clear hown3 hK1
      obtain ⟨jb, jo, rfl, hjb, d0, d1, _, _⟩ := (HR.out.up HBw3.out (Nat.le_refl _)).at hin
      have hli := HJ.out i hin
      unfold longK at hli
      obtain ⟨l, hl⟩ : ∃ l, l = (js.getD i J0).long := ⟨_, rfl⟩
      obtain ⟨d, hd⟩ : ∃ d, d = (js.getD i J0).due := ⟨_, rfl⟩
      rw [← hl] at d0 hli
      rw [← hd] at d1 hli
      have HL := Lib.hid hl
      have HDU := Lib.hid hd
      have hin' : (i : Int) < js.length := by omega
      have hwr : IntKind.i64.wrap (t + l) = t + l := by rw [IntKind.wrap_i64]; omega
      clear hl hd
      have hmem : ∀ x, x < K1.length → K1.getD x 0 < js.length := fun x hx => by
        have : K1.getD x 0 ∈ K1 := by rw [List.getD_eq_getElem?_getD, List.getElem?_eq_getElem hx]; exact List.getElem_mem _
        generalize K1.getD x 0 = y at this ⊢
        rw [HK1.out] at this
        rcases List.mem_append.1 this with h1 | h1
        · exact HO.out.small y h1
        · rw [List.mem_singleton.1 h1]; exact hin
      have HM := Lib.hid hmem
      clear hmem
      by_cases hle : t + l ≤ d
      · have HE := Lib.hid (show otStep js K A t i = (K1, A, t + l) by unfold otStep longK; rw [← HL.out, ← HDU.out, if_pos hle, HK1.out])
        rw [HE.out] at HN
        go_wp2_with fail
        go_roundw
        case rel => exact ⟨k + 1, K1, A, t + l, _, _, b2, c2, by go_num, by omega, by rw [hK1l], rfl, rfl, HN, Lib.hid (by rw [hK1l]; exact HW3.out), HB3⟩
        case measure => simp [intOf]; omega
      · have hf : decide (t + l ≤ d) = false := decide_eq_false hle
        obtain ⟨m, hm⟩ : ∃ m, m = longest js K1 := ⟨_, rfl⟩
        have hml : m < K1.length := by rw [hm]; exact mostN_lt _ _ (by omega)
        have HE := Lib.hid (show otStep js K A t i = (K1.eraseIdx m, A ++ [K1.getD m 0], t + l - longK js (K1.getD m 0)) by
          have e : longK js i = l := HL.out.symm
          unfold otStep
          rw [e, ← HDU.out, if_neg hle, ← HK1.out, ← hm])
        rw [HE.out] at HN
        have HMM := Lib.hid hm
        clear hm hle
        obtain ⟨wi, hwi⟩ : ∃ wi, wi = w3 := ⟨_, rfl⟩
        go_wp2_with fail
        go_loopw [10, 43] (fun lv jv wr => ∃ (j : Nat), jv = .int .i64 j ∧ j ≤ K1.length ∧ lv = .int .i64 (mostN (keptLong js K1) j) ∧ Hid (∃ n, wr = w3.drewN n)) (fun _ jv _ => K1.length + 1 - (intOf jv).toNat)
        case atStart => exact ⟨0, rfl, Nat.zero_le _, rfl, Lib.hid ⟨0, rfl⟩⟩
        case round =>
          obtain ⟨j, rfl, hj, rfl, hdr⟩ := hrel
          by_cases hjl : j < K1.length
          · have hjl' : (j : Int) < (K.length : Int) + 1 := by omega
            have hjl2 : (j : Int) < ((K.length + 1 : Nat) : Int) := by omega
            have hoR : Hid (wr.ownsRow w1.heap.size 2 1 (.slice (some ⟨g, 0, none⟩) (K.length + 1) c3) (K.length + 1) ((idxs K1).map I64)) := Lib.hid (by obtain ⟨n, rfl⟩ := hdr.out; exact HO3.out)
            have hjR : Hid (RdJ wr (.slice (some ⟨jb, jo, none⟩) js.length _) js) := Lib.hid (by obtain ⟨n, rfl⟩ := hdr.out; exact (HR.out.up HBw3.out (Nat.le_refl _)).drewN2 n)
            obtain ⟨p, hp⟩ : ∃ p, p = mostN (keptLong js K1) j := ⟨_, rfl⟩
            have hpj : p ≤ j := by rw [hp]; exact mostN_le _ _
            rw [← hp]
            have hc1 := own2_cell hoR.out hjl
            have hc2 := own2_cell hoR.out (show p < K1.length by omega)
            have hy := HM.out j hjl
            have hz := HM.out p (by omega)
            have HS := Lib.hid (show mostN (keptLong js K1) (j + 1) = if longK js (K1.getD p 0) < longK js (K1.getD j 0) then j else p by rw [hp]; rfl)
            have HP := Lib.hid hp
            clear hp
            obtain ⟨y, hye⟩ : ∃ y, y = K1.getD j 0 := ⟨_, rfl⟩
            obtain ⟨z, hze⟩ : ∃ z, z = K1.getD p 0 := ⟨_, rfl⟩
            rw [← hye] at hc1 hy HS
            rw [← hze] at hc2 hz HS
            clear hye hze
            obtain ⟨b4, o4, e4, _, y0, _, _, _⟩ := hjR.out.at hy
            simp only [Option.some.injEq, Addr.mk.injEq, and_true] at e4
            obtain ⟨rfl, rfl⟩ := e4
            obtain ⟨b5, o5, e5, _, z0, _, _, _⟩ := hjR.out.at hz
            simp only [Option.some.injEq, Addr.mk.injEq, and_true] at e5
            obtain ⟨rfl, rfl⟩ := e5
            unfold longK at HS
            obtain ⟨ly, hly⟩ : ∃ q, q = (js.getD y J0).long := ⟨_, rfl⟩
            obtain ⟨lz, hlz⟩ : ∃ q, q = (js.getD z J0).long := ⟨_, rfl⟩
            rw [← hly] at y0 HS
            rw [← hlz] at z0 HS
            clear hly hlz
            have hy' : (y : Int) < js.length := by omega
            have hz' : (z : Int) < js.length := by omega
            have hp1 : (p : Int) < (K.length : Int) + 1 := by omega
            have hp2 : (p : Int) < ((K.length + 1 : Nat) : Int) := by omega
            by_cases hlq : lz < ly
            · have hd1 : decide (lz < ly) = true := decide_eq_true hlq
              have HX := Lib.hid (show mostN (keptLong js K1) (j + 1) = j by rw [HS.out, if_pos hlq])
              clear hlq HS
              go_wp2_with fail
              go_quiet (fail)
              go_wp2_with fail
              go_roundw
              case rel => exact ⟨j + 1, by go_num, by omega, by rw [HX.out], Lib.hid (by obtain ⟨n, rfl⟩ := hdr.out; exact drewN_ex ⟨n, rfl⟩ _)⟩
              case measure => simp [intOf]; omega
            · have hd1 : decide (lz < ly) = false := decide_eq_false hlq
              have HX := Lib.hid (show mostN (keptLong js K1) (j + 1) = p by rw [HS.out, if_neg hlq])
              clear hlq HS
              go_wp2_with fail
              go_quiet (fail)
              go_wp2_with fail
              go_roundw
              case rel => exact ⟨j + 1, by go_num, by omega, by rw [HX.out], Lib.hid (by obtain ⟨n, rfl⟩ := hdr.out; exact drewN_ex ⟨n, rfl⟩ _)⟩
              case measure => simp [intOf]; omega
          · obtain rfl : j = K1.length := by omega
            obtain ⟨wd, rfl⟩ : ∃ wd, wd = wr := ⟨wr, rfl⟩
            have hmm := HMM.out
            unfold longest at hmm
            rw [← hmm]
            have hbd : Below w3.heap.size w3 wd := by obtain ⟨n, rfl⟩ := hdr.out; exact below_drewN (Below.refl _ _) n
            have HW4 := Lib.hid (HW3.out.up hbd (Nat.le_refl _))
            have hzd := hbd.size
            have hz3 := HB3.out.size
            have HB4 := Lib.hid (HB3.out.trans (hbd.mono hz3))
            have HO4 := Lib.hid (show wd.ownsRow w1.heap.size 2 1 (.slice (some ⟨g, 0, none⟩) (K.length + 1) c3) (K.length + 1) ((idxs K1).map I64) by obtain ⟨n, rfl⟩ := hdr.out; exact HO3.out)
            have hjR : Hid (RdJ wd (.slice (some ⟨jb, jo, none⟩) js.length _) js) := Lib.hid (by obtain ⟨n, rfl⟩ := hdr.out; exact (HR.out.up HBw3.out (Nat.le_refl _)).drewN2 n)
            have hc2 := own2_cell HO4.out hml
            have hz := HM.out m hml
            obtain ⟨z, hze⟩ : ∃ z, z = K1.getD m 0 := ⟨_, rfl⟩
            rw [← hze] at hc2 hz HE HN
            obtain ⟨b5, o5, e5, _, z0, _, _, _⟩ := hjR.out.at hz
            simp only [Option.some.injEq, Addr.mk.injEq, and_true] at e5
            obtain ⟨rfl, rfl⟩ := e5
            have hlz0 := HJ.out z hz
            unfold longK at hlz0 HN HE
            obtain ⟨lz, hlz⟩ : ∃ q, q = (js.getD z J0).long := ⟨_, rfl⟩
            rw [← hlz] at z0 hlz0 HN HE
            have hz' : (z : Int) < js.length := by omega
            have hm' : (m : Int) < (K.length : Int) + 1 := by omega
            have hm2 : (m : Int) < ((K.length + 1 : Nat) : Int) := by omega
            have hwz : IntKind.i64.wrap (t + l - lz) = t + l - lz := by rw [IntKind.wrap_i64]; omega
            have HA1 := Lib.hid (show wd.ownsRow w1.heap.size 2 1 (.slice b2 A.length c2) A.length ((idxs A).map I64) by have := HW4.out.2.1; rw [idxs_len] at this; exact this)
            have HLZ := Lib.hid hlz
            have HZE := Lib.hid hze
            clear hmm hbd hlz hze d0 d1
            go_upto_region 19 with (at_builtin; refine app_intsL rfl _ _ rfl w1.heap.size (.slice b2 A.length c2) A.length (idxs A) rfl (HA1.out.alloc _) _ [(z : Int)] rfl (slc_one _ _) (A.length + 1) (idxs (A ++ [z])) (by simp) (by rw [idxs_app]; rfl) (by omega) (by simp; omega) ?_; intro b4 c4 w5 hown5 hbl5 hg5 hor5)
            have hal5 : Below wd.heap.size wd (wd.alloc (.cells #[.int .i64 (z : Int)] 2)) := (Below.refl _ _).alloc (Nat.le_refl _) _
            have HW5 := Lib.hid (HW4.out.symm.grow hal5 hown5 (show A.length + 1 = (idxs (A ++ [z])).length by rw [idxs_len]; simp) hg5 hor5).symm
            have hlow : Below w1.heap.size wd w5 := ((Below.refl _ _).alloc (by omega) _).trans hbl5
            have HB5 := Lib.hid (HB4.out.trans hlow)
            have HO5 := Lib.hid (show w5.ownsRow w1.heap.size 2 1 (.slice (some ⟨g, 0, none⟩) (K.length + 1) c3) (K.length + 1) ((idxs K1).map I64) by have := HW5.out.1; rw [idxs_len, hK1l] at this; exact this)
            have hc5 := own2_cell HO5.out hml
            obtain ⟨b6, o6, e6, _, z5, _, _, _⟩ := (HR.out.up (HB1.out.trans (HB5.out.mono HB1.out.size)) (Nat.le_refl _)).at hz
            simp only [Option.some.injEq, Addr.mk.injEq, and_true] at e6
            obtain ⟨rfl, rfl⟩ := e6
            rw [← HLZ.out] at z5
            rw [← HZE.out] at hc5
            have hC := delete_any w1.heap.size g c3 m (idxs K1) w5 (by rw [idxs_len, hK1l]; exact HO5.out) (by rw [idxs_len]; exact hml) HB5.out.size
            rw [idxs_len, hK1l, ← idxs_erase] at hC
            have HC := Lib.hid hC
            clear hC hal5 hown5 hbl5 hg5 hor5 hlow HO4 HO3 HW3 hjR
            go_wp2_with (go_at_call 295; refine HC.out.mono ?_; rintro e w6 ⟨rfl, ho6, hk6⟩)
            have hl6 : K.length + 1 - 1 = (idxs (K1.eraseIdx m)).length := by rw [idxs_len, List.length_eraseIdx, if_pos hml, hK1l]
            have HW6 := Lib.hid (HW5.out.cut ho6 hl6 hk6)
            have HB6 := Lib.hid (HB5.out.trans (hk6.toBelow HB5.out.size (fun k h1 h2 => by omega)))
            go_roundw
            case rel => exact ⟨k + 1, K1.eraseIdx m, A ++ [z], t + l - lz, some ⟨g, 0, none⟩, c3, b4, c4, by go_num, by omega, by rw [List.length_eraseIdx, if_pos hml, hK1l]; rfl, by rw [List.length_append]; rfl, rfl, HN, Lib.hid (by rw [List.length_eraseIdx, if_pos hml, hK1l, List.length_append]; exact HW6.out), HB6⟩
            case measure => simp [intOf]; omega
    · obtain rfl : k = js.length := by omega
      have HE := Lib.hid HO.out.done
      have HW1 := Lib.hid (show wo.ownsRow w1.heap.size 2 1 (.slice b K.length c) K.length ((idxs K).map I64) by have := HW.out.1; rw [idxs_len] at this; exact this)
      have hsl : Hid (Slc wo (.slice b2 A.length c2) ((idxs A).map I64)) := Lib.hid (slc_of_owns HW.out.2.1)
      have hsz := HB.out.size
      go_wp2_with (first | (at_builtin; refine app_intsL rfl _ _ rfl w1.heap.size (.slice b K.length c) K.length (idxs K) rfl HW1.out _ (idxs A) rfl hsl.out (K.length + A.length) (idxs (K ++ A)) (by rw [idxs_len]) (idxs_app _ _) (by omega) hsz ?_; intro b3 c3 w3 hown3 hbl3 hg3 hor3) | (go_at_call 66; refine (size_any _ _ (by simp [maxLen]; omega)).mono ?_; rintro e w' ⟨rfl, rfl⟩))
      go_ret3
      have e1 : otN js = (K.length : Nat) := by unfold otN; rw [if_pos HQ.out, HE.out]
      have e2 : otL js = idxs (K ++ A) := by unfold otL; rw [if_pos HQ.out, HE.out]
      refine ⟨_, by rw [e1]; rfl, ?_, HB1.out.trans ((HB.out.trans hbl3).mono HB1.out.size)⟩
      rw [e2]
      exact (OwnI.mk hown3).wide HB1.out.size (Nat.le_refl _)
end Go.Proofs.YtgkbbpajkbkgnaaGreatDoor
