/-
  FnExactToSimplex: texts joined: SimS, LFnExactToSimplex.
-/
import Derived.Deep.RegionHeld3
import Derived.Deep.Cut
import Derived.Test.YtkkcgclliomocaaMEToSimplexAC
import Derived.Test.YtkkcgclliomocaaMEToSimplexAI
import Derived.Test.YtkkcgclliomocaaMEToSimplexAL
namespace Go.Proofs.Ytkkcgclliomocaa
open Go.RowKit Go.Sort

theorem l06Floats_any (v : Value) (xs : List Nat) (w : World) (h : RdF w v xs) :
    Calls Try.prog 81 #[v] w fun e w' => e = .returned (.bool (shortB xs)) ∧ ∃ m, w' = w.drewN m := by
  obtain ⟨a, c, rfl⟩ := h.shape
  have hl := h.len
  simp only [maxLen] at hl
  have HF := Lib.hid (l02Finite_any _ xs w h)
  clear h
  go_enter Try.func81, Try.ntmps81
  by_cases h1 : 1 ≤ xs.length
  · by_cases h2 : xs.length ≤ 64
    · have HE := Lib.hid (show shortB xs = allFin xs by unfold shortB; rw [inB_iff.2 (by omega)]; rfl)
      have d1 : decide ((xs.length : Int) ≤ 64) = true := decide_eq_true (by omega)
      have d2 : decide ((1 : Int) ≤ xs.length) = true := decide_eq_true (by omega)
      go_wp2_with (go_at_call 115; refine HF.out.mono ?_; rintro e w' ⟨rfl, hd⟩)
      go_ret
      exact ⟨by rw [HE.out]; rfl, hd⟩
    · have HE := Lib.hid (show shortB xs = false by unfold shortB; rw [show inB 1 64 (xs.length : Int) = false by rw [← Bool.not_eq_true, inB_iff]; omega]; rfl)
      go_wp2_with fail
      go_ret
      exact ⟨by rw [HE.out]; rfl, 0, rfl⟩
  · have HE := Lib.hid (show shortB xs = false by unfold shortB; rw [show inB 1 64 (xs.length : Int) = false by rw [← Bool.not_eq_true, inB_iff]; omega]; rfl)
    go_wp2_with fail
    go_ret
    exact ⟨by rw [HE.out]; rfl, 0, rfl⟩

theorem l02List_b (v : Value) (xs : List Nat) (w : World) (h : RdF w v xs) :
    Calls Try.prog 83 #[v] w fun e w' => e = .returned (.tuple #[if allFin xs = true then v else .slice none 0 0, .bool (allFin xs)]) ∧ ∃ m, w' = w.drewN m := by
  have HF := Lib.hid (l02Finite_any _ xs w h)
  obtain ⟨q, hq⟩ : ∃ q, allFin xs = q := ⟨_, rfl⟩
  rw [hq] at HF ⊢
  clear h hq
  go_enter Try.func83, Try.ntmps83
  cases q
  · go_wp2_with (go_at_call 115; refine HF.out.mono ?_; rintro e w' ⟨rfl, hd⟩)
    go_ret2
    exact ⟨rfl, hd⟩
  · go_wp2_with (go_at_call 115; refine HF.out.mono ?_; rintro e w' ⟨rfl, hd⟩)
    go_ret2
    exact ⟨rfl, hd⟩

theorem ownF_set2 {w : World} {lo g n cap : Nat} {xs : List Nat} (h : w.ownsRow lo 98 1 (.slice (some ⟨g, 0, none⟩) n cap) n (xs.map F32)) (j z : Nat) : (w.setCell ⟨g, j, none⟩ (.float .f32 z)).ownsRow lo 98 1 (.slice (some ⟨g, 0, none⟩) n cap) n ((xs.set j z).map F32) := by
  have h1 := (h.stored j (.float .f32 z)).1
  rw [List.map_set]
  exact h1
theorem swp_list (d : Array Nat) (j x p : Nat) (hx : d[j + 1]! = x) (hp : d[j]! = p) : (d.toList.set (j + 1) p).set j x = (swp d (j + 1) j).toList := by
  unfold swp
  rw [hx, hp, Array.toList_setIfInBounds, Array.toList_setIfInBounds]
/-- All of a row are finite. -/
structure FinA (n : Nat) (d : Array Nat) : Prop where
  size : d.size = n
  fin : ∀ k, k < n → fin32 d[k]! = true
theorem FinA.swp {n j : Nat} {d : Array Nat} (h : FinA n d) (hj : j + 1 < n) : FinA n (swp d (j + 1) j) := by
  have hs := h.size
  refine ⟨by rw [size_swp, hs], fun k hk => ?_⟩
  by_cases e1 : k = j + 1
  · subst e1; rw [swp_left d (j + 1) j (by omega) (by omega)]; exact h.fin _ (by omega)
  · by_cases e2 : k = j
    · subst e2; rw [swp_right d (k + 1) k (by omega)]; exact h.fin _ (by omega)
    · rw [swp_other d _ _ _ e1 e2]; exact h.fin k hk
theorem FinA.start {xs : List Nat} (h : allFin xs = true) : FinA xs.length xs.toArray := by
  refine ⟨by simp, fun k hk => ?_⟩
  have := allFin_get h hk
  rw [getElem!_pos _ k (by simpa using hk)]
  rw [List.getD_eq_getElem?_getD, List.getElem?_eq_getElem hk] at this
  simpa using this
theorem arr_cell {lo g n cap j : Nat} {w : World} {d : Array Nat} (h : w.ownsRow lo 98 1 (.slice (some ⟨g, 0, none⟩) n cap) n (d.toList.map F32)) (hj : j < d.size) : w.cell? ⟨g, j, none⟩ = some (.float .f32 d[j]!) := by
  rw [ownF_cell2 h (by rw [Array.length_toList]; exact hj), List.getD_eq_getElem?_getD, Array.getElem?_toList, Array.getElem?_eq_getElem hj, getElem!_pos d j hj]
  rfl

set_option maxHeartbeats 2000000 in
set_option maxRecDepth 4000 in
theorem toSimplexS_any (v : Value) (xs : List Nat) (w : World) (h : RdF w v xs) :
    Calls Try.prog 33 #[v] w fun e w' => ∃ u, e = .returned (.tuple #[u, .bool (simOk xs)]) ∧ OwnF w.heap.size w'.heap.size w' u (simR xs) ∧ Below w.heap.size w w' := by
  obtain ⟨a, c, rfl⟩ := h.shape
  have HS := Lib.hid (l06Floats_any _ xs w h)
  have HR := Lib.hid h
  obtain ⟨q, hq⟩ : ∃ q, shortB xs = q := ⟨_, rfl⟩
  rw [hq] at HS
  have HQ := Lib.hid hq
  clear hq h
  obtain ⟨ok, hok⟩ : ∃ ok, ok = simOk xs := ⟨_, rfl⟩
  rw [← hok]
  have HOK := Lib.hid hok
  clear hok
  go_enter Try.func33, Try.ntmps33
  cases q
  · go_wp2_with (go_at_call 81; refine HS.out.mono ?_; rintro e w0 ⟨rfl, hd⟩)
    go_ret2
    obtain ⟨m, rfl⟩ := hd
    have e1 : simOk xs = false := by unfold simOk; rw [HQ.out]; rfl
    have e2 : simR xs = [] := by unfold simR; rw [e1]; rfl
    exact ⟨_, by rw [HOK.out, e1]; rfl, by rw [e2]; exact ⟨World.ownsRow_nil _ _ _ _, by intro g hg; cases hg⟩, below_drewN (Below.refl _ _) _⟩
  have hsh := HQ.out
  unfold shortB at hsh
  rw [Bool.and_eq_true, inB_iff] at hsh
  obtain ⟨⟨hn1, hn2⟩, hfin⟩ := hsh
  have hn1' : 1 ≤ xs.length := by omega
  have hn2' : xs.length ≤ 64 := by omega
  have HFX := Lib.hid hfin
  obtain ⟨n, hn⟩ : ∃ n, n = xs.length := ⟨_, rfl⟩
  have HN := Lib.hid hn
  rw [← hn] at hn1' hn2' HR
  clear hfin hn1 hn2
  go_upto_region 3 with (go_at_call 81; refine HS.out.mono ?_; rintro e w0 ⟨rfl, hd⟩)
  have hb0 : Below w.heap.size w w0 := by obtain ⟨m, rfl⟩ := hd; exact below_drewN (Below.refl _ _) _
  have HB0 := Lib.hid hb0
  have hs0 := hb0.size
  have HR0 := Lib.hid (HR.out.up hb0 (Nat.le_refl _))
  rw [← hn]
  clear hb0 hd HS hn
  have hal : Below w0.heap.size w0 (w0.alloc (.cells #[] 98)) := (Below.refl _ _).alloc (Nat.le_refl _) _
  have HAL := Lib.hid hal
  clear hal
  go_upto_region 4 with (at_builtin; refine app_flts rfl _ _ rfl w0.heap.size (.slice (some ⟨w0.heap.size, 0, none⟩) 0 0) 0 [] rfl (ownsF_empty w0) _ xs rfl ((show Slc w0 _ _ from HR0.out).below HAL.out (Nat.le_refl _)) n xs (by rw [HN.out]; simp) (by simp) (by omega) (by simp) ?_; intro b1 c1 w1 hown1 hbl1 _ _)
  obtain ⟨g, rfl, hg⟩ := owns_slice_some hown1 (by omega)
  have HB1 := Lib.hid (HB0.out.trans ((HAL.out.trans hbl1).mono hs0))
  have HO1 := Lib.hid (owns_base hown1 hs0)
  have hs1 := HB1.out.size
  clear hown1 hbl1 HAL HR0
  obtain ⟨S, hS⟩ : ∃ S, S = insertionSort ltV xs.toArray 0 n := ⟨_, rfl⟩
  have HSD := Lib.hid (show S.toList = sortD xs by rw [hS, HN.out]; rfl)
  have HIS := Lib.hid (show insOuter ltV 0 n 1 xs.toArray = S from hS.symm)
  have HFA := Lib.hid (show FinA n xs.toArray by rw [HN.out]; exact FinA.start HFX.out)
  clear hS
  have HO1' := Lib.hid (show w1.ownsRow w.heap.size 98 1 (.slice (some ⟨g, 0, none⟩) n c1) n (xs.toArray.toList.map F32) from HO1.out)
  clear HO1
  go_wp2_with fail
  go_loopw [5] (fun iv wr => ∃ (i : Nat) (d : Array Nat), iv = .int .i64 i ∧ i ≤ n ∧ Hid (FinA n d) ∧ Hid (insOuter ltV 0 n i d = S) ∧ Hid (wr.ownsRow w.heap.size 98 1 (.slice (some ⟨g, 0, none⟩) n c1) n (d.toList.map F32)) ∧ Hid (Below w.heap.size w wr)) (fun iv _ => n + 1 - (intOf iv).toNat)
  case atStart => exact ⟨1, xs.toArray, rfl, hn1', HFA, HIS, HO1', HB1⟩
  case round =>
    clear HFA HIS HO1' HB1
    obtain ⟨i, d, rfl, hi, HD, HI, HO, HB⟩ := hrel
    obtain ⟨wo, rfl⟩ : ∃ wo, wo = wr := ⟨wr, rfl⟩
    by_cases hlt : i < n
    · have hlt' : (i : Int) < (n : Int) := by omega
      have HIO := Lib.hid (show insOuter ltV 0 n (i + 1) (insInner ltV 0 i d) = S by rw [← insOuter_go _ _ _ _ _ hlt]; exact HI.out)
      clear HI
      go_wp2_with fail
      go_loopw [6] (fun jv wr => ∃ (j : Nat) (e : Array Nat), jv = .int .i64 j ∧ j ≤ i ∧ Hid (FinA n e) ∧ Hid (insInner ltV 0 j e = insInner ltV 0 i d) ∧ Hid (wr.ownsRow w.heap.size 98 1 (.slice (some ⟨g, 0, none⟩) n c1) n (e.toList.map F32)) ∧ Hid (Below w.heap.size w wr)) (fun jv _ => (intOf jv).toNat)
      case atStart => exact ⟨i, d, rfl, Nat.le_refl _, HD, Lib.hid rfl, HO, HB⟩
      case round =>
        obtain ⟨j, e, rfl, hj, HDe, HIe, HOe, HBe⟩ := hrel
        obtain ⟨wi, rfl⟩ : ∃ wi, wi = wr := ⟨wr, rfl⟩
        have hes := HDe.out.size
        have HES := Lib.hid hes
        clear hes
        have out : (j ≤ 0 ∨ ltV e[j]! e[j - 1]! = false) → Hid (insOuter ltV 0 n (i + 1) e = S) := fun hs => Lib.hid (by rw [← HIO.out, ← HIe.out, insInner_stop _ _ _ _ hs])
        have OUT := Lib.hid out
        clear out
        by_cases hj0 : 0 < j
        · obtain ⟨jp, rfl⟩ : ∃ jp, j = jp + 1 := ⟨j - 1, by omega⟩
          have hc1 := arr_cell HOe.out (show jp + 1 < e.size by rw [HES.out]; omega)
          have hc2 := arr_cell HOe.out (show jp < e.size by rw [HES.out]; omega)
          have hfx := HDe.out.fin (jp + 1) (by omega)
          have hfp := HDe.out.fin jp (by omega)
          have hf1 := HOe.out.frozenAt (jp + 1)
          have hf2 := HOe.out.frozenAt jp
          obtain ⟨x, hx⟩ : ∃ x, e[jp + 1]! = x := ⟨_, rfl⟩
          obtain ⟨p, hp⟩ : ∃ p, e[jp]! = p := ⟨_, rfl⟩
          rw [hx] at hc1 hfx
          rw [hp] at hc2 hfp
          have HX := Lib.hid hx
          have HP := Lib.hid hp
          have HLT := Lib.hid (gtF_ltV hfx hfp)
          have hj2 : (jp : Int) + 1 < (n : Int) := by omega
          have hj3 : (jp : Int) < (n : Int) := by omega
          clear hx hp hfx hfp
          have hsx := HBe.out.size
          by_cases hgt : gtF x p = true
          · have hg2 := yes_gt_b hgt
            have HS := Lib.hid (show insInner ltV 0 jp (swp e (jp + 1) jp) = insInner ltV 0 i d by
              have := insInner_go ltV 0 (jp + 1) e hj0 (by rw [Nat.add_sub_cancel, HX.out, HP.out, ← HLT.out]; exact hgt)
              rw [Nat.add_sub_cancel] at this
              rw [← this]; exact HIe.out)
            clear hgt
            go_wp2_with fail
            go_quiet (fail)
            go_wp2_with fail
            go_roundw
            case rel =>
              have HO3 : ∀ q, (((wi.drewN q).setCell ⟨g, jp + 1, none⟩ (.float .f32 p)).setCell ⟨g, jp, none⟩ (.float .f32 x)).ownsRow w.heap.size 98 1 (.slice (some ⟨g, 0, none⟩) n c1) n ((swp e (jp + 1) jp).toList.map F32) := fun q => by
                have h := ownF_set2 (ownF_set2 (owns_below HOe.out (below_drewN (Below.refl wi.heap.size wi) q) (Nat.le_refl _)) (jp + 1) p) jp x
                rw [swp_list e jp x p HX.out HP.out] at h
                exact h
              exact ⟨jp, swp e (jp + 1) jp, by go_num, by omega, Lib.hid (HDe.out.swp (by omega)), HS, Lib.hid (HO3 _), Lib.hid (((below_drewN HBe.out _).setCell (show w.heap.size ≤ g by omega) _).setCell (show w.heap.size ≤ g by omega) _)⟩
            case measure => simp [intOf]
          · have hg2 := not_gt_b (Bool.not_eq_true _ ▸ hgt)
            have HU := OUT.out (.inr (by rw [Nat.add_sub_cancel, HX.out, HP.out, ← HLT.out]; exact (Bool.not_eq_true _ ▸ hgt)))
            clear hgt OUT
            go_wp2_with fail
            go_quiet (fail)
            go_wp2_with fail
            go_roundw
            case rel => exact ⟨i + 1, e, by go_num, by omega, HDe, HU, HOe, Lib.hid (below_drewN HBe.out _)⟩
            case measure => simp [intOf]; omega
        · obtain rfl : j = 0 := by omega
          have HU := OUT.out (.inl (Nat.le_refl _))
          clear OUT
          go_wp2_with fail
          go_quiet (fail)
          go_wp2_with fail
          go_roundw
          case rel => exact ⟨i + 1, e, by go_num, by omega, HDe, HU, HOe, Lib.hid (below_drewN HBe.out _)⟩
          case measure => simp [intOf]; omega
    · obtain rfl : i = n := by omega
      have HDS := Lib.hid (show d.toList = sortD xs by rw [← HSD.out, ← HI.out, insOuter_stop _ _ _ _ _ (by omega)])
      obtain ⟨E, hE⟩ : ∃ E, E = sortD xs := ⟨_, rfl⟩
      have HE := Lib.hid hE
      have hde := sortD_desc xs
      rw [← hE] at hde
      have HEL := Lib.hid (show E.length = i by rw [HN.out]; exact hde.perm.length_eq)
      have HFE := Lib.hid (show allFin E = true by
        have := HFX.out
        unfold allFin at this ⊢
        rw [List.all_eq_true] at this ⊢
        exact fun x hx => this x (hde.perm.mem_iff.1 hx))
      have HO2 := Lib.hid (show wo.ownsRow w.heap.size 98 1 (.slice (some ⟨g, 0, none⟩) i c1) i (E.map F32) by rw [hE, ← HDS.out]; exact HO.out)
      have HDE := Lib.hid hde
      clear hE hde HO HI HD HDS
      obtain ⟨wq, rfl⟩ : ∃ wq, wq = wo := ⟨wo, rfl⟩
      obtain ⟨n, rfl⟩ : ∃ n, n = i := ⟨i, rfl⟩
      have hc1' := fin_one
      go_wp2_with fail
      go_loopw [8, 9, 10, 11] (fun tv lv fv iv wr => ∃ (k : Nat), iv = .int .i64 k ∧ k ≤ n ∧ tv = .float .f32 (totV E k) ∧ lv = .float .f32 (cutF E k).1 ∧ fv = .bool (cutF E k).2 ∧ wq = wr) (fun _ _ _ iv _ => n + 1 - (intOf iv).toNat)
      case atStart => exact ⟨0, rfl, Nat.zero_le _, rfl, rfl, rfl, rfl⟩
      case round =>
        obtain ⟨k, rfl, hk, rfl, rfl, rfl, rfl⟩ := hrel
        by_cases hlt : k < n
        · have hlt' : (k : Int) < n := by omega
          have hke : k < E.length := by rw [HEL.out]; exact hlt
          have hx := ownF_cell2 HO2.out hke
          have hxf := allFin_get HFE.out hke
          obtain ⟨hn0, _⟩ := totV_num HFE.out k (by omega)
          have ha := (add_num hn0 hxf)
          have hsb := sub_numR ha.2 fin_one
          have hnr := near_small k (by omega)
          have hdv := div_num hsb.2 hnr.1 hnr.2
          have HT := Lib.hid (show totV E (k + 1) = addW (totV E k) (E.getD k 0) from rfl)
          have HK := Lib.hid (show cutK E k = divV (subV2 (addW (totV E k) (E.getD k 0)) 1065353216) (floatOfInt .f32 ((k + 1 : Nat) : Int)) from rfl)
          have HF := Lib.hid (show cutF E (k + 1) = if gtF (E.getD k 0) (cutK E k) = true then (cutK E k, true) else cutF E k from rfl)
          obtain ⟨t, ht⟩ : ∃ t, t = totV E k := ⟨_, rfl⟩
          obtain ⟨x, hxe⟩ : ∃ x, x = E.getD k 0 := ⟨_, rfl⟩
          rw [← ht, ← hxe] at ha hsb hdv HT HK
          rw [← hxe] at hx HF
          rw [← ht]
          obtain ⟨t1, ht1⟩ : ∃ t1, t1 = addW t x := ⟨_, rfl⟩
          rw [← ht1] at hsb hdv HT HK
          obtain ⟨t2, ht2⟩ : ∃ t2, t2 = subV2 t1 1065353216 := ⟨_, rfl⟩
          rw [← ht2] at hdv HK
          have q1 := fun (W : World) => run_addW (P := Try.prog) 98 ha.1 W
          have q2 := fun (W : World) => run_subW (P := Try.prog) 98 hsb.1 W
          rw [← ht1] at q1
          rw [← ht2] at q2
          have hcast : ((k + 1 : Nat) : Int) = (k : Int) + 1 := by omega
          rw [hcast] at hdv HK
          obtain ⟨b, hb⟩ : ∃ b, b = divV t2 (floatOfInt .f32 ((k : Int) + 1)) := ⟨_, rfl⟩
          have q3 := fun (W : World) => run_div_some (P := Try.prog) 98 hdv.1 W
          rw [← hb] at q3 HK
          rw [HK.out] at HF
          have HT1 := Lib.hid ht1
          clear ht1 ht2 hb hxe ht ha hsb hdv hnr hn0 hxf hcast HK
          by_cases hgt : gtF x b = true
          · have hg2 := yes_gt_b hgt
            have HG := Lib.hid hgt
            clear hgt
            go_wp2_with fail
            go_roundw
            case rel => exact ⟨k + 1, by go_num, by omega, by rw [HT.out], by rw [HF.out, if_pos HG.out], by rw [HF.out, if_pos HG.out], trivial⟩
            case measure => simp [intOf]; omega
          · have hg2 := not_gt_b (Bool.not_eq_true _ ▸ hgt)
            have HG := Lib.hid hgt
            clear hgt
            go_wp2_with fail
            go_roundw
            case rel => exact ⟨k + 1, by go_num, by omega, by rw [HT.out], by rw [HF.out, if_neg HG.out], by rw [HF.out, if_neg HG.out], trivial⟩
            case measure => simp [intOf]; omega
        · obtain rfl : k = n := by omega
          have HC1 := Lib.hid (show cutF E E.length = cutF E k by rw [HEL.out])
          have HCF := Lib.hid (cut_fin HDE.out HFX.out (by rw [← HN.out]; exact hn1') (by rw [← HN.out]; exact hn2'))
          have hnum := cutF_num HFE.out (by rw [HEL.out]; exact hn2') k (by rw [HEL.out]; exact Nat.le_refl _)
          have HSIM := Lib.hid (show simOk xs = simOk2 xs E by unfold simOk; rw [HQ.out, ← HE.out]; rfl)
          have HSIR := Lib.hid (show simR xs = if simOk2 xs E = true then simL xs E else [] by unfold simR; rw [HSIM.out, ← HE.out])
          obtain ⟨less, hless⟩ : ∃ z, z = (cutF E k).1 := ⟨_, rfl⟩
          obtain ⟨found, hfound⟩ : ∃ z, z = (cutF E k).2 := ⟨_, rfl⟩
          rw [← hless] at hnum ⊢
          rw [← hfound]
          have HL := Lib.hid hless
          have HF := Lib.hid hfound
          have HNUM := Lib.hid hnum
          clear hless hfound hnum
          have HSL := Lib.hid (show simL xs E = outK xs less k by unfold simL; rw [HC1.out, ← HL.out, HN.out])
          have HSO := Lib.hid (show simOk2 xs E = (found && allFin (simL xs E)) by unfold simOk2; rw [HC1.out, ← HF.out])
          have hnil : ∀ W : World, OwnF w.heap.size W.heap.size W (.slice none 0 0) [] := fun W => ⟨World.ownsRow_nil _ _ _ _, by intro g hg; cases hg⟩
          have HNIL := Lib.hid hnil
          clear hnil
          cases found
          · go_wp2_with fail
            go_ret2
            have e1 : simOk2 xs E = false := by rw [HSO.out]; rfl
            exact ⟨_, by rw [HOK.out, HSIM.out, e1]; rfl, by rw [HSIR.out, e1]; exact HNIL.out _, HB.out⟩
          have HLF := Lib.hid (l01Finite_any less wq)
          obtain ⟨lf, hlf⟩ : ∃ q, fin32 less = q := ⟨_, rfl⟩
          rw [hlf] at HLF
          have HLQ := Lib.hid hlf
          clear hlf
          cases lf
          · go_wp2_with (go_at_call 82; refine HLF.out.mono ?_; rintro e w4 ⟨rfl, hd⟩)
            go_ret2
            have e1 : simOk2 xs E = false := by
              cases hq : simOk2 xs E with
              | false => rfl
              | true =>
                have := HCF.out hq
                rw [HC1.out, ← HL.out, HLQ.out] at this
                exact absurd this (by simp)
            exact ⟨_, by rw [HOK.out, HSIM.out, e1]; rfl, by rw [HSIR.out, e1]; exact HNIL.out _, by obtain ⟨m, rfl⟩ := hd; exact below_drewN HB.out _⟩
          go_upto_region 26 with (go_at_call 82; refine HLF.out.mono ?_; rintro e w4 ⟨rfl, hd⟩)
          have HB4 := Lib.hid (show Below w.heap.size w w4 by obtain ⟨m, rfl⟩ := hd; exact below_drewN HB.out _)
          have hs4 := HB4.out.size
          clear hd
          go_wp2_with fail
          go_loopw [13, 14] (fun ov iv wr => ∃ (j : Nat) (b : Option Addr) (cc : Nat), iv = .int .i64 j ∧ j ≤ k ∧ ov = .slice b j cc ∧ Hid (wr.ownsRow w.heap.size 98 1 (.slice b j cc) j ((outK xs less j).map F32)) ∧ Hid (Below w.heap.size w wr)) (fun _ iv _ => k + 1 - (intOf iv).toNat)
          case atStart => exact ⟨0, _, _, rfl, Nat.zero_le _, rfl, Lib.hid (owns_base (ownsF_empty w4) hs4), Lib.hid (HB4.out.alloc hs4 _)⟩
          case round =>
            obtain ⟨j, b, cc, rfl, hj, rfl, HOj, HBj⟩ := hrel
            obtain ⟨wj, rfl⟩ : ∃ wj, wj = wr := ⟨wr, rfl⟩
            have hsz := HBj.out.size
            by_cases hlj : j < k
            · have hlj' : (j : Int) < k := by omega
              have hjx : j < xs.length := by have := HN.out; omega
              obtain ⟨xb, xo, rfl, _, hx⟩ := (show RdF wj (.slice a xs.length c) xs by have := HR.out.up HBj.out (Nat.le_refl _); rw [HN.out] at this; exact this).at hjx
              have hxf := allFin_get HFX.out hjx
              have hsb := sub_numL hxf HNUM.out
              have HEE := Lib.hid (outK_succ xs less j hjx)
              obtain ⟨x, hxe⟩ : ∃ x, x = xs.getD j 0 := ⟨_, rfl⟩
              rw [← hxe] at hx hsb HEE
              have q2 := fun (W : World) => run_subW (P := Try.prog) 98 hsb.1 W
              have HLV := Lib.hid (show lessV x less = if ltF0 (subV2 x less) = true then 0 else subV2 x less from rfl)
              obtain ⟨y, hy⟩ : ∃ y, y = subV2 x less := ⟨_, rfl⟩
              rw [← hy] at q2 HLV
              clear hy hxe hsb hxf
              by_cases hn : ltF0 y = true
              · have hcp : (FloatKind.f32.format.order y 0 == some .lt) = true := hn
                have HEV := Lib.hid (show outK xs less (j + 1) = outK xs less j ++ [0] by rw [HEE.out, HLV.out, if_pos hn])
                clear hn HEE HLV hjx
                go_wp2_with (at_builtin; refine app_flts rfl _ _ rfl w.heap.size (.slice b j cc) j (outK xs less j) rfl (HOj.out.alloc _) _ [0] rfl (slcF_one _ _) (j + 1) (outK xs less (j + 1)) (by simp) HEV.out (by omega) (by simp; omega) ?_; intro b3 c3 w3 hown3 hbl3 _ _)
                go_roundw
                case rel => exact ⟨j + 1, b3, c3, by go_num, by omega, rfl, Lib.hid hown3, Lib.hid (HBj.out.trans (((Below.refl _ _).alloc hsz _).trans hbl3))⟩
                case measure => simp [intOf]; omega
              · have hcp : (FloatKind.f32.format.order y 0 == some .lt) = false := (Bool.not_eq_true _ ▸ hn)
                have HEV := Lib.hid (show outK xs less (j + 1) = outK xs less j ++ [y] by rw [HEE.out, HLV.out, if_neg hn])
                clear hn HEE HLV hjx
                go_wp2_with (at_builtin; refine app_flts rfl _ _ rfl w.heap.size (.slice b j cc) j (outK xs less j) rfl (HOj.out.alloc _) _ [y] rfl (slcF_one _ _) (j + 1) (outK xs less (j + 1)) (by simp) HEV.out (by omega) (by simp; omega) ?_; intro b3 c3 w3 hown3 hbl3 _ _)
                go_roundw
                case rel => exact ⟨j + 1, b3, c3, by go_num, by omega, rfl, Lib.hid hown3, Lib.hid (HBj.out.trans (((Below.refl _ _).alloc hsz _).trans hbl3))⟩
                case measure => simp [intOf]; omega
            · obtain rfl : j = k := by omega
              have HA := Lib.hid (l02List_b _ (outK xs less j) wj (show RdF wj (.slice b j cc) _ from slc_of_owns HOj.out))
              have HOW := Lib.hid (OwnF.mk HOj.out)
              obtain ⟨q, hq⟩ : ∃ q, allFin (outK xs less j) = q := ⟨_, rfl⟩
              rw [hq] at HA
              rw [HSL.out, hq] at HSO
              clear hq
              cases q
              · go_wp2_with (go_at_call 83; refine HA.out.mono ?_; rintro e w5 ⟨rfl, hd⟩)
                go_ret2
                have e1 : simOk2 xs E = false := by rw [HSO.out]; rfl
                refine ⟨_, by rw [HOK.out, HSIM.out, e1]; rfl, by rw [HSIR.out, e1]; exact HNIL.out _, ?_⟩
                obtain ⟨m, rfl⟩ := hd
                exact below_drewN HBj.out _
              · go_wp2_with (go_at_call 83; refine HA.out.mono ?_; rintro e w5 ⟨rfl, hd⟩)
                go_ret2
                have e1 : simOk2 xs E = true := by rw [HSO.out]; rfl
                refine ⟨_, by rw [HOK.out, HSIM.out, e1]; rfl, ?_, ?_⟩
                · rw [HSIR.out, e1, if_pos rfl, HSL.out]
                  obtain ⟨m, rfl⟩ := hd
                  exact HOW.out
                · obtain ⟨m, rfl⟩ := hd
                  exact below_drewN HBj.out _

end Go.Proofs.Ytkkcgclliomocaa

namespace Go.Proofs.Ytkkcgclliomocaa
open Go.RowKit

set_option maxHeartbeats 4000000 in
set_option maxRecDepth 100000 in
theorem lawToSimplex_any (w : World) (v0 : Value) (z0 : List Nat) (r0 : RdF w v0 z0) :
    Calls Try.prog 7 #[v0] w fun e w' => e = .returned (.bool true) ∧ Below w.heap.size w w' := by
  obtain ⟨x0, c0, rfl⟩ := r0.shape
  have l0_0 : z0.length ≤ 9223372036854775807 := by have := RdF.len r0; unfold maxLen at this; omega
  have RP0 := Lib.hid r0
  clear r0
  have B : Hid (Below w.heap.size w w) := Below.refl _ _
  go_enter Try.func7, Try.ntmps7
  by_cases hg0 : (1048576 : Int) < (z0.length : Nat)
  · go_wp2_with fail
    go_ret
    exact ⟨rfl, by first | exact B.out | (repeat' first | exact Below.refl _ _ | assumption | refine Below.alloc ?_ ?_ _ | refine Below.setCell ?_ ?_ _ | refine Below.drew ?_ | (simp; done) | (simp; omega))⟩
  have hs0 : bulkF z0 ≤ 1048576 := by unfold bulkF; omega
  have ne1 : ((simOk z0) != (simOk z0)) = false := by simp
  go_upto_region 3 with fail
  go_wp2_with fail
  refine (toF_any _ z0 _ (RP0.out.up B.out (Nat.le_refl _)) hs0).mono ?_
  rintro e w1 ⟨vc0, rfl, c0, hb⟩
  replace c0 := Lib.hid c0
  replace B := Lib.hid (B.out.trans (hb.mono B.out.size))
  have zw1 : w.heap.size ≤ w1.heap.size := hb.size
  clear hb
  go_wp2_with fail
  refine (toSimplexS_any _ z0 _ c0.out.rd).mono ?_
  rintro e w2 ⟨Wv0, rfl, Wo0, hb⟩
  replace Wo0 := Lib.hid Wo0
  replace B := Lib.hid (B.out.trans (hb.mono B.out.size))
  replace c0 := Lib.hid (c0.out.up hb (Nat.le_refl _))
  have zw2 : w1.heap.size ≤ w2.heap.size := hb.size
  clear hb
  clear c0
  go_upto_region 4 with fail
  go_wp2_with fail
  refine (toF_any _ z0 _ (RP0.out.up B.out (Nat.le_refl _)) hs0).mono ?_
  rintro e w3 ⟨vcp0, rfl, cp0, hb⟩
  replace cp0 := Lib.hid cp0
  replace B := Lib.hid (B.out.trans (hb.mono B.out.size))
  replace Wo0 := Lib.hid (Wo0.out.up hb (Nat.le_refl _))
  have zw3 : w2.heap.size ≤ w3.heap.size := hb.size
  clear hb
  go_upto_region 5 with fail
  go_wp2_with fail
  refine (toSimplexI_any _ z0 _ cp0.out.rd).mono ?_
  rintro e w4 ⟨Gv0, rfl, Go0, hb⟩
  replace Go0 := Lib.hid Go0
  replace B := Lib.hid (B.out.trans (hb.mono B.out.size))
  replace Wo0 := Lib.hid (Wo0.out.up hb (Nat.le_refl _))
  replace cp0 := Lib.hid (cp0.out.up hb (Nat.le_refl _))
  have zw4 : w3.heap.size ≤ w4.heap.size := hb.size
  clear hb
  go_upto_region 6 with fail
  go_wp2_with fail
  refine (eqF_same _ _ (simR z0) _ Go0.out.rd Wo0.out.rd).mono ?_
  rintro e w5 ⟨rfl, hb⟩
  replace B := Lib.hid (B.out.trans (hb.mono B.out.size))
  replace Wo0 := Lib.hid (Wo0.out.up hb (Nat.le_refl _))
  replace cp0 := Lib.hid (cp0.out.up hb (Nat.le_refl _))
  replace Go0 := Lib.hid (Go0.out.up hb (Nat.le_refl _))
  have zw5 : w4.heap.size ≤ w5.heap.size := hb.size
  clear hb
  go_upto_region 8 with fail
  go_wp2_with fail
  refine (toF_any _ z0 _ (RP0.out.up B.out (Nat.le_refl _)) hs0).mono ?_
  rintro e w6 ⟨vc0, rfl, c0, hb⟩
  replace c0 := Lib.hid c0
  replace B := Lib.hid (B.out.trans (hb.mono B.out.size))
  replace Wo0 := Lib.hid (Wo0.out.up hb (Nat.le_refl _))
  replace cp0 := Lib.hid (cp0.out.up hb (Nat.le_refl _))
  replace Go0 := Lib.hid (Go0.out.up hb (Nat.le_refl _))
  have zw6 : w5.heap.size ≤ w6.heap.size := hb.size
  clear hb
  go_wp2_with fail
  refine (eqF_same _ _ z0 _ cp0.out.rd c0.out.rd).mono ?_
  rintro e w7 ⟨rfl, hb⟩
  replace B := Lib.hid (B.out.trans (hb.mono B.out.size))
  replace Wo0 := Lib.hid (Wo0.out.up hb (Nat.le_refl _))
  replace cp0 := Lib.hid (cp0.out.up hb (Nat.le_refl _))
  replace Go0 := Lib.hid (Go0.out.up hb (Nat.le_refl _))
  replace c0 := Lib.hid (c0.out.up hb (Nat.le_refl _))
  have zw7 : w6.heap.size ≤ w7.heap.size := hb.size
  clear hb
  clear c0
  have hk0 : (0 : Int) ≤ 1 := by decide
  have hc0 : (0 : Int) ≤ (cntF z0 : Nat) := by omega
  go_upto_region 11 with fail
  go_wp2_with fail
  refine (markF_o _ _ _ z0 _ _ cp0.out (by omega) (by have := cntF_le z0; omega)).mono ?_
  rintro e w8 ⟨rfl, -, hb⟩
  replace B := Lib.hid (B.out.trans (hb.toBelow B.out.size (by rintro k hk1 ⟨h1, h2⟩; omega)))
  replace Wo0 := Lib.hid (Wo0.out.kept hb (by rintro b h1 h2 ⟨h3, h4⟩; omega))
  replace Go0 := Lib.hid (Go0.out.kept hb (by rintro b h1 h2 ⟨h3, h4⟩; omega))
  have zw8 : w7.heap.size ≤ w8.heap.size := hb.size
  clear hb
  clear cp0
  go_upto_region 12 with fail
  go_wp2_with fail
  refine (eqF_same _ _ (simR z0) _ Go0.out.rd Wo0.out.rd).mono ?_
  rintro e w9 ⟨rfl, hb⟩
  replace B := Lib.hid (B.out.trans (hb.mono B.out.size))
  replace Wo0 := Lib.hid (Wo0.out.up hb (Nat.le_refl _))
  replace Go0 := Lib.hid (Go0.out.up hb (Nat.le_refl _))
  have zw9 : w8.heap.size ≤ w9.heap.size := hb.size
  clear hb
  have hcGo0 : (0 : Int) ≤ (cntF (simR z0) : Nat) := by omega
  have Go0h := Go0
  clear Go0h
  go_upto_region 15 with fail
  go_wp2_with fail
  refine (markF_o _ _ _ (simR z0) _ _ Go0.out (by omega) (by have := simR_cnt z0; omega)).mono ?_
  rintro e w10 ⟨rfl, MGo0, hb⟩
  replace MGo0 := Lib.hid MGo0
  replace B := Lib.hid (B.out.trans (hb.toBelow B.out.size (by rintro k hk1 ⟨h1, h2⟩; omega)))
  replace Wo0 := Lib.hid (Wo0.out.kept hb (by rintro b h1 h2 ⟨h3, h4⟩; omega))
  have zw10 : w9.heap.size ≤ w10.heap.size := hb.size
  clear hb
  clear Go0
  have nm : ((1 + (cntF (simR z0) : Int) : Int) != (1 + (cntF (simR z0) : Int) : Int)) = false := by simp
  go_upto_region 17 with fail
  go_wp2_with fail
  refine (heldF_o _ (simR z0) _ _ MGo0.out.rd (by omega) (by have := simR_cnt z0; omega)).mono ?_
  rintro e w11 ⟨rfl, hb⟩
  replace B := Lib.hid (B.out.trans (hb.mono B.out.size))
  replace Wo0 := Lib.hid (Wo0.out.up hb (Nat.le_refl _))
  replace MGo0 := Lib.hid (MGo0.out.up hb (Nat.le_refl _))
  have zw11 : w10.heap.size ≤ w11.heap.size := hb.size
  clear hb
  go_upto_region 22 with fail
  go_wp2_with fail
  refine (toF_any _ z0 _ (RP0.out.up B.out (Nat.le_refl _)) hs0).mono ?_
  rintro e w12 ⟨vc0, rfl, c0, hb⟩
  replace c0 := Lib.hid c0
  replace B := Lib.hid (B.out.trans (hb.mono B.out.size))
  replace Wo0 := Lib.hid (Wo0.out.up hb (Nat.le_refl _))
  replace MGo0 := Lib.hid (MGo0.out.up hb (Nat.le_refl _))
  have zw12 : w11.heap.size ≤ w12.heap.size := hb.size
  clear hb
  go_wp2_with fail
  refine (toSimplexI_any _ z0 _ c0.out.rd).mono ?_
  rintro e w13 ⟨Hv0, rfl, Ho0, hb⟩
  replace Ho0 := Lib.hid Ho0
  replace B := Lib.hid (B.out.trans (hb.mono B.out.size))
  replace Wo0 := Lib.hid (Wo0.out.up hb (Nat.le_refl _))
  replace MGo0 := Lib.hid (MGo0.out.up hb (Nat.le_refl _))
  replace c0 := Lib.hid (c0.out.up hb (Nat.le_refl _))
  have zw13 : w12.heap.size ≤ w13.heap.size := hb.size
  clear hb
  clear c0
  go_upto_region 23 with fail
  go_wp2_with fail
  refine (eqF_same _ _ (simR z0) _ Ho0.out.rd Wo0.out.rd).mono ?_
  rintro e w14 ⟨rfl, hb⟩
  replace B := Lib.hid (B.out.trans (hb.mono B.out.size))
  replace Wo0 := Lib.hid (Wo0.out.up hb (Nat.le_refl _))
  replace MGo0 := Lib.hid (MGo0.out.up hb (Nat.le_refl _))
  replace Ho0 := Lib.hid (Ho0.out.up hb (Nat.le_refl _))
  have zw14 : w13.heap.size ≤ w14.heap.size := hb.size
  clear hb
  go_upto_region 26 with fail
  go_wp2_with fail
  refine (heldF_o _ (simR z0) _ _ MGo0.out.rd (by omega) (by have := simR_cnt z0; omega)).mono ?_
  rintro e w15 ⟨rfl, hb⟩
  replace B := Lib.hid (B.out.trans (hb.mono B.out.size))
  replace Wo0 := Lib.hid (Wo0.out.up hb (Nat.le_refl _))
  replace MGo0 := Lib.hid (MGo0.out.up hb (Nat.le_refl _))
  replace Ho0 := Lib.hid (Ho0.out.up hb (Nat.le_refl _))
  have zw15 : w14.heap.size ≤ w15.heap.size := hb.size
  clear hb
  go_wp2_with fail
  go_ret
  exact ⟨rfl, B.out⟩

end Go.Proofs.Ytkkcgclliomocaa
