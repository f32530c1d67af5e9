/-
  FnRules: texts joined: LFnRules, OpenB.
-/
import Derived.BigQuiet
import Derived.Deep.Cut
import Derived.Lib.MinMax
import Derived.Deep.RegionLaw
import Derived.Test.YtfdaifmfecfchaaMFnRulesAF
import Derived.Test.YtfdaifmfecfchaaMFnRulesAJ
import Derived.Test.YtfdaifmfecfchaaMFnRulesAK
import Derived.Test.YtfdaifmfecfchaaMFnRulesAN
namespace Go.Proofs.Ytfdaifmfecfchaa
open Go.RowKit Go.Sort

set_option maxHeartbeats 8000000 in
set_option maxRecDepth 100000 in
theorem lawFnRules_any (w : World) (v0 : Value) (z0 : List Int) (r0 : RdB w v0 z0) (f0 : WfB z0) (v1 : Value) (z1 : List Int) (r1 : RdB w v1 z1) (f1 : WfB z1) :
    Calls Try.prog 5 #[v0, v1] w fun e w' => e = .returned (.bool true) ∧ Below w.heap.size w w' := by
  obtain ⟨i0, hi, hz0, hz1, hz2⟩ := info_parts Try.infoBool8
  obtain ⟨a0, c0, rfl⟩ := r0.shape
  obtain ⟨a1, c1, rfl⟩ := r1.shape
  have HR0 := Lib.hid r0
  have HR1 := Lib.hid r1
  have HF0 := Lib.hid f0
  have HF1 := Lib.hid f1
  clear r0 r1 f0 f1
  have HLG := Lib.hid (r8Long_any (.slice a0 z0.length c0) (.slice a1 z1.length c1) z0 z1 w HR0.out HR1.out)
  obtain ⟨q, hq⟩ : ∃ q, isLong8 z0 z1 = q := ⟨_, rfl⟩
  rw [hq] at HLG
  clear hq
  go_enter Try.func5, Try.ntmps5
  cases q
  case true =>
    go_wp2_with (go_at_call 6; refine HLG.out.mono ?_; rintro e w' ⟨rfl, rfl⟩)
    go_ret
    exact ⟨rfl, Below.refl _ _⟩
  go_upto_region 3 with (go_at_call 6; refine HLG.out.mono ?_; rintro e w' ⟨rfl, rfl⟩)
  clear HLG
  go_upto_region 4 with (go_at_call 7; refine (r8At_any (.slice a1 z1.length c1) z1 40 30 w HR1.out HF1.out (by omega) (by omega) (by omega) (by omega)).mono ?_; rintro e w' ⟨r, hr0, hr1, rfl, rfl⟩)
  obtain ⟨n, hn⟩ : ∃ n : Nat, (n : Int) = 1 + r := ⟨(1 + r).toNat, by omega⟩
  have hn1 : 1 ≤ n := by omega
  have hn30 : n ≤ 30 := by omega
  rw [← hn]
  clear hn hr0 hr1
  go_upto_region 5 with (go_at_call 26; refine (R8Asks_any (.slice a0 z0.length c0) z0 w HR0.out HF0.out n (by omega) 6 (by omega) (by omega)).mono ?_; rintro e w1 ⟨xs, xv, hxl, hxa, rfl, hox, hb1⟩)
  obtain ⟨xa, xc, rfl⟩ := hox.rd.shape
  have HB1 := Lib.hid hb1
  have HX1 := Lib.hid hox.rd
  rw [hxl] at HX1
  try rw [hxl]
  clear hb1 hox
  go_upto_region 6 with (go_at_call 7; refine (r8At_any (.slice a1 z1.length c1) z1 41 5 w1 (HR1.out.up HB1.out (Nat.le_refl _)) HF1.out (by omega) (by omega) (by omega) (by omega)).mono ?_; rintro e w' ⟨r, hr0, hr1, rfl, rfl⟩)
  obtain ⟨rm, hm⟩ : ∃ n : Nat, (n : Int) = 1 + r := ⟨(1 + r).toNat, by omega⟩
  have hm1 : 1 ≤ rm := by omega
  have hm5 : rm ≤ 5 := by omega
  rw [← hm]
  clear hm hr0 hr1
  -- the asks
  have hxs : ∀ i, i < xs.length → 0 ≤ xs.getD i 0 ∧ xs.getD i 0 < 6 := fun i hi => by
    unfold allIn at hxa
    rw [List.all_eq_true] at hxa
    have := hxa (xs[i]) (List.getElem_mem hi)
    rw [List.getD_eq_getElem?_getD, List.getElem?_eq_getElem hi]
    unfold inB at this
    simp at this
    simp only [Option.getD_some]
    omega
  have hxm : ∀ y ∈ xs, 0 ≤ y ∧ y < 6 := fun y hy => by
    obtain ⟨i, hi, rfl⟩ := List.mem_iff_getElem.1 hy
    have := hxs i hi
    rw [List.getD_eq_getElem?_getD, List.getElem?_eq_getElem hi] at this
    exact this
  have hak : asksB xs = true := by
    unfold asksB
    rw [inB_true (by rw [hxl]; omega), Bool.true_and]
    exact allIn_true fun i hi => inB_true (by have := hxs i hi; omega)
  obtain ⟨g1, g2, g3, g4, g5, g6⟩ := faults_law hm1 hxm
  obtain ⟨g7, g8, g9, g10⟩ := front_law (by omega) hxs
  have g11 := kin_len xs []
  have HFA := Lib.hid (fun (rr : Nat) (rule : Int) (h1 : 1 ≤ rr) (h2 : rr ≤ 16) (h3 : 0 ≤ rule) (h4 : rule ≤ 2) W (hW : RdI W (.slice xa n xc) xs) => faults_any (.slice xa n xc) xs rr rule W hW hak h1 h2 h3 h4)
  have HFR := Lib.hid (fun W (hW : RdI W (.slice xa n xc) xs) => front_any (.slice xa n xc) xs 6 W hW hak (by omega) (by omega) hxs)
  have HPA := Lib.hid (fun (k : Nat) (hk : k < xs.length) W (hW : RdI W (.slice xa n xc) xs) => pickAfter_any (.slice xa n xc) xs k W hW (by omega) (by omega) hk)
  obtain ⟨Q0, hQ0⟩ : ∃ q, q = flL rm 0 [] xs := ⟨_, rfl⟩
  obtain ⟨Q1, hQ1⟩ : ∃ q, q = flL rm 1 [] xs := ⟨_, rfl⟩
  obtain ⟨Q2, hQ2⟩ : ∃ q, q = flL rm 2 [] xs := ⟨_, rfl⟩
  obtain ⟨Q3, hQ3⟩ : ∃ q, q = flL (rm + 1) 1 [] xs := ⟨_, rfl⟩
  obtain ⟨Q4, hQ4⟩ : ∃ q, q = flL 6 0 [] xs := ⟨_, rfl⟩
  obtain ⟨KN, hKN⟩ : ∃ q, q = kinL [] xs := ⟨_, rfl⟩
  rw [← hQ2, ← hQ0] at g1
  rw [← hQ2, ← hQ1] at g2
  rw [← hQ3, ← hQ1] at g3
  rw [← hKN, ← hQ2] at g4
  rw [← hQ4, ← hKN] at g5
  rw [← hQ0, hxl] at g6
  rw [← hKN, hxl] at g11
  rw [hxl] at g8 g9 g10 HPA
  obtain ⟨⟨fc, FL⟩, hFC⟩ : ∃ q, q = frC (List.range 6) (asN xs) := ⟨_, rfl⟩
  rw [← hFC] at g7 g8 g9 g10 HFR
  simp only at g7 g8 g9 g10 HFR
  obtain ⟨rm2, hrm2⟩ : ∃ r : Nat, r = rm + 1 := ⟨_, rfl⟩
  rw [← hrm2] at hQ3
  have H0 := Lib.hid hQ0
  have H1 := Lib.hid hQ1
  have H2 := Lib.hid hQ2
  have H3 := Lib.hid hQ3
  have H4 := Lib.hid hQ4
  have HK := Lib.hid hKN
  have HXL := Lib.hid hxl
  have HXS := Lib.hid hxs
  have hwr : IntKind.i64.wrap ((rm : Int) + 1) = (rm2 : Int) := by rw [show (rm : Int) + 1 = (rm2 : Int) by omega]; exact IntWalk.i64_in _ (by omega)
  have hrmA : rm ≤ 16 := by omega
  have hrmB : 1 ≤ rm2 := by omega
  have hrmC : rm2 ≤ 16 := by omega
  clear hxs hxm hak hQ0 hQ1 hQ2 hQ3 hQ4 hKN hFC hxl hxa hrm2 hm5
  go_upto_region 7 with (go_at_call 27; refine (HFA.out rm 0 hm1 hrmA (by omega) (by omega) w1 HX1.out).mono ?_; rintro e w2 ⟨rfl, hb2⟩; rw [← H0.out])
  have HB2 := Lib.hid hb2
  have HX2 := Lib.hid (HX1.out.up hb2 (Nat.le_refl _))
  clear hb2
  go_upto_region 8 with (go_at_call 27; refine (HFA.out rm 1 hm1 hrmA (by omega) (by omega) w2 HX2.out).mono ?_; rintro e w3 ⟨rfl, hb3⟩; rw [← H1.out])
  have HB3 := Lib.hid (HB2.out.trans (hb3.mono HB2.out.size))
  have HX3 := Lib.hid (HX2.out.up hb3 (Nat.le_refl _))
  clear hb3 HX2
  go_upto_region 9 with (go_at_call 27; refine (HFA.out rm 2 hm1 hrmA (by omega) (by omega) w3 HX3.out).mono ?_; rintro e w4 ⟨rfl, hb4⟩; rw [← H2.out])
  have HB4 := Lib.hid (HB3.out.trans (hb4.mono HB3.out.size))
  have HX4 := Lib.hid (HX3.out.up hb4 (Nat.le_refl _))
  clear hb4 HX3
  go_upto_region 10 with (go_at_call 27; refine (HFA.out rm2 1 hrmB hrmC (by omega) (by omega) w4 HX4.out).mono ?_; rintro e w5 ⟨rfl, hb5⟩; rw [← H3.out])
  have HB5 := Lib.hid (HB4.out.trans (hb5.mono HB4.out.size))
  have HX5 := Lib.hid (HX4.out.up hb5 (Nat.le_refl _))
  clear hb5 HX4
  go_upto_region 11 with (go_at_call 27; refine (HFA.out 6 0 (by omega) (by omega) (by omega) (by omega) w5 HX5.out).mono ?_; rintro e w6 ⟨rfl, hb6⟩; rw [← H4.out])
  have HB6 := Lib.hid (HB5.out.trans (hb6.mono HB5.out.size))
  have HX6 := Lib.hid (HX5.out.up hb6 (Nat.le_refl _))
  clear hb6 HX5 HFA HB2 HB3 HB4 HB5 hwr hrmA hrmB hrmC H0 H1 H2 H3 H4
  go_upto_region 13 with (at_make; refine wpList_make_full _ rfl _ _ 46 rfl w6.heap.size 4 i0 (.bool false) 1 Try.underlying46 hi hz0 hz1 .i64 .i64 6 6 6 rfl rfl rfl rfl (by rw [hz2]; omega) (by simp [maxLen]) (by simp) ?_; intro w7 hown hgrow)
  have hb7 : Below w6.heap.size w6 w7 := (Below.refl _ _).grown hgrow (Nat.le_refl _) (by intro k hk; cases hk)
  have hzr : (madeCells (Value.bool false).cells (6 * 1)).toList = fI [] := by
    rw [fI_zero]
    simpa [Value.cells] using toList_madeCells_one (Value.bool false) 6
  rw [hzr] at hown
  obtain ⟨g, hg⟩ : ∃ g, g = w6.heap.size := ⟨_, rfl⟩
  rw [← hg] at hown ⊢
  have hgl : g < w7.heap.size := (owns_lt hown (k := g) rfl).2
  have HG := Lib.hid hg
  have HO7 := Lib.hid hown
  have HB7 := Lib.hid hb7
  clear hown hgrow hb7 hzr hg hi hz0 hz1 hz2
  go_wp2_with fail
  go_loopw [18, 20] (fun kv iv wr => ∃ (i kc : Nat), iv = .int .i64 i ∧ i ≤ n ∧ kv = .int .i64 kc ∧ kc ≤ i ∧ Hid (kc + kinL (xs.take i) (xs.drop i) = KN) ∧ Hid (wr.ownsRow g 4 1 (.slice (some ⟨g, 0, none⟩) 6 6) 6 (fI (xs.take i))) ∧ Hid (Below w6.heap.size w6 wr)) (fun _ iv _ => n + 1 - (intOf iv).toNat)
  case atStart => exact ⟨0, 0, rfl, Nat.zero_le _, rfl, Nat.zero_le _, Lib.hid (by rw [List.take_zero, List.drop_zero, Nat.zero_add]; exact HK.out.symm), HO7, HB7⟩
  case round =>
    obtain ⟨i, kc, rfl, hin, rfl, hkc, HKI, HOI, HBI⟩ := hrel
    obtain ⟨wo, rfl⟩ : ∃ wo, wo = wr := ⟨wr, rfl⟩
    by_cases hlt : i < n
    · have hiI : (i : Int) < (n : Int) := by omega
      have hil : i < xs.length := by rw [HXL.out]; exact hlt
      obtain ⟨ab, ao, rfl, _, ca⟩ := (HX6.out.up HBI.out (Nat.le_refl _)).at hil
      have hx := HXS.out i hil
      have hki := HKI.out
      rw [drop_cons8 hil] at hki
      simp only [kinL] at hki
      have htk := take_snoc7 hil
      obtain ⟨x, hxe⟩ : ∃ x : Nat, xs.getD i 0 = (x : Int) := ⟨(xs.getD i 0).toNat, by omega⟩
      rw [hxe] at ca hx hki htk
      have hx6 : x < 6 := by omega
      have hxI : (x : Int) < 6 := by omega
      have cg : wo.cell? ⟨g, x, none⟩ = some (.bool (decide ((x : Int) ∈ xs.take i))) := by
        rw [HOI.out.cellAt x (by omega)]
        exact fI_at _ hx6
      have fg := HOI.out.frozenAt x
      have HSTO := Lib.hid (show (wo.setCell ⟨g, x, none⟩ (.bool true)).ownsRow g 4 1 (.slice (some ⟨g, 0, none⟩) 6 6) 6 (fI (xs.take (i + 1))) by
        rw [htk, ← fI_set _ hx6]
        exact (HOI.out.stored x (.bool true)).1)
      have HBS := Lib.hid (show Below w6.heap.size w6 (wo.setCell ⟨g, x, none⟩ (.bool true)) from HBI.out.setCell (p := ⟨g, x, none⟩) (by show w6.heap.size ≤ g; rw [HG.out]; exact Nat.le_refl _) _)
      rw [← htk] at hki
      by_cases hm : (x : Int) ∈ xs.take i
      · rw [if_pos hm, Nat.zero_add] at hki
        rw [decide_eq_true hm] at cg
        have HK2 := Lib.hid hki
        have HSAME := Lib.hid (show wo.ownsRow g 4 1 (.slice (some ⟨g, 0, none⟩) 6 6) 6 (fI (xs.take (i + 1))) by
          rw [htk, fI_in hm]
          exact HOI.out)
        clear hki hm htk hxe
        go_wp2_with fail
        go_roundw
        case rel => exact ⟨i + 1, kc, by go_num, by omega, rfl, by omega, HK2, by first | exact HSAME | exact HSTO, by first | exact HBI | exact HBS⟩
        case measure => simp [intOf]; omega
      · rw [if_neg hm] at hki
        rw [decide_eq_false hm] at cg
        have HK2 := Lib.hid (show kc + 1 + kinL (xs.take (i + 1)) (xs.drop (i + 1)) = KN by omega)
        have hwk : IntKind.i64.wrap ((kc : Int) + 1) = (kc : Int) + 1 := IntWalk.i64_in _ (by omega)
        clear hki hm htk hxe
        go_wp2_with fail
        go_roundw
        case rel => exact ⟨i + 1, kc + 1, by go_num, by omega, by go_num, by omega, HK2, HSTO, HBS⟩
        case measure => simp [intOf]; omega
    · obtain rfl : i = n := by omega
      have hki := HKI.out
      rw [List.drop_of_length_le (by rw [HXL.out]; exact Nat.le_refl _)] at hki
      simp only [kinL, Nat.add_zero] at hki
      subst hki
      have hii : ¬ (i : Int) < (i : Int) := by omega
      have k1 : decide ((Q0 : Int) < (Q2 : Int)) = false := decide_eq_false (by omega)
      have k2 : decide ((Q1 : Int) < (Q2 : Int)) = false := decide_eq_false (by omega)
      have k3 : decide ((Q1 : Int) < (Q3 : Int)) = false := decide_eq_false (by omega)
      have k4 : decide ((Q2 : Int) < (kc : Int)) = false := decide_eq_false (by omega)
      have k5 : ((Q4 : Int) != (kc : Int)) = false := by rw [g5]; simp
      have k6 : decide ((i : Int) < (Q0 : Int)) = false := decide_eq_false (by omega)
      have n1 : ¬ Q0 < Q2 := by omega
      have n2 : ¬ Q1 < Q2 := by omega
      have n3 : ¬ Q1 < Q3 := by omega
      have n4 : ¬ Q2 < kc := by omega
      have n6 : ¬ i < Q0 := by omega
      obtain rfl : Q4 = kc := g5
      have HBZ := Lib.hid (show Below w1.heap.size w1 wo from HB6.out.trans (HBI.out.mono HB6.out.size))
      have HXZ := Lib.hid (HX6.out.up HBI.out (Nat.le_refl _))
      clear HB6 HX6 HBI HOI HKI HO7 HB7 HG HK g1 g2 g3 g4 g6 g11 hgl
      go_upto_region 21 with fail
      clear k1 k2 k3 k4 k5 k6 n1 n2 n3 n4 n6 hii
      have G7 := Lib.hid g7
      have G8 := Lib.hid g8
      have G9 := Lib.hid g9
      have G10 := Lib.hid g10
      clear g7 g8 g9 g10
      have hn0 : i - 1 < xs.length := by rw [HXL.out]; omega
      have hxy := HXS.out (i - 1) hn0
      go_upto_region 22 with (go_at_call 28; refine (HFR.out wo HXZ.out).mono ?_; rintro e w8 ⟨lv, rfl, hol, hb8⟩; obtain ⟨la, lc, rfl⟩ := hol.rd.shape)
      have hfl : FL.length = 6 := by rw [G7.out.length_eq]; rfl
      have hil : (idxs FL).length = 6 := by rw [idxs_len]; exact hfl
      have HL8 := Lib.hid hol.rd
      rw [hil] at HL8
      try rw [hil]
      have HB8 := Lib.hid (HBZ.out.trans (hb8.mono HBZ.out.size))
      have HX8 := Lib.hid (HXZ.out.up hb8 (Nat.le_refl _))
      have HIL := Lib.hid hil
      have HFL := Lib.hid hfl
      clear hol hb8 hil hfl
      obtain ⟨j, hj⟩ : ∃ j, j = i - 1 := ⟨_, rfl⟩
      have hg8 := G8.out
      rw [← hj] at hn0 hxy hg8
      obtain ⟨y, hy⟩ : ∃ y : Nat, xs.getD j 0 = (y : Int) := ⟨(xs.getD j 0).toNat, by omega⟩
      rw [hy, Int.toNat_natCast] at hg8
      obtain ⟨ab, ao, rfl, _, ca⟩ := HX8.out.at hn0
      obtain ⟨lb, lo, rfl, _, cl⟩ := HL8.out.at (i := 0) (by rw [HIL.out]; omega)
      rw [idxs_get _ (by rw [HFL.out]; omega), hg8, Nat.add_zero] at cl
      rw [hy] at ca
      have hjI : (j : Int) < (i : Int) := by omega
      have hj0 : (0 : Int) ≤ (j : Int) := by omega
      have hjn : j < i := by omega
      have hw1 : IntKind.i64.wrap ((i : Int) - 1) = (j : Int) := by rw [show (i : Int) - 1 = (j : Int) by omega]; exact IntWalk.i64_in _ (by omega)
      have hw2 : IntKind.i64.wrap (6 * (i : Int)) = 6 * (i : Int) := IntWalk.i64_in _ (by omega)
      have k1 : ((y : Int) != (y : Int)) = false := by simp
      have k2 : decide ((fc : Int) < (i : Int)) = false := decide_eq_false (by have := G9.out; omega)
      have k3 : decide (6 * (i : Int) < (fc : Int)) = false := decide_eq_false (by have := G10.out; omega)
      have n2 : ¬ fc < i := by have := G9.out; omega
      have n3 : ¬ 6 * i < fc := by have := G10.out; omega
      clear hj hy hg8 hxy hn0
      have HTU := Lib.hid (fun X (hX : Below w8.heap.size w8 X) => r8Tour_any _ FL 6 X (HL8.out.up hX (Nat.le_refl _)) G7.out (by omega))
      refine wp_region_cls (fun X => X.cell? ⟨lb, lo, none⟩ = some (.int .i64 y) ∧ X.cell? ⟨ab, ao + j, none⟩ = some (.int .i64 y) ∧ Hid (Below w8.heap.size w8 X)) (by kernel_rfl) (by kernel_rfl) (⟨cl, ca, (Below.refl _ _).drew⟩) ?_
      repeat (first
        | go_big_quiet_skip
        | (go_big_quiet_want
           apply Exists.intro
           refine ⟨fun X hX => ?_, ?_⟩
           · (try dsimp only at hX)
             go_simp
             (first | with_reducible rfl | done | (have hcur := hX.2.2; (go_at_call 19; refine (HTU.out _ hcur.out).mono ?_; rintro e w1 ⟨rfl, hb1⟩; have hbn := hcur.out.trans (hb1.mono hcur.out.size); exact ⟨rfl, held_of hbn cl (Nat.le_refl _), held_of hbn ca (Nat.le_refl _), hbn⟩)))
           go_big_quiet_on
           (try simp only [Act.put, List.setIfInBounds_toArray, List.set_cons_zero, List.set_cons_succ])))
      refine wpQuiet_nil ?_
      intro w9 hC
      (try dsimp only at hC)
      have HB9 := Lib.hid (HB8.out.trans (hC.2.2.out.mono HB8.out.size))
      have HX9 := Lib.hid (HX8.out.up hC.2.2.out (Nat.le_refl _))
      clear hC k1 k2 k3 n2 n3 hw1 hw2 HTU cl ca HX8 HL8 HXZ HBZ HFR G7 G8 G9 G10 HIL HFL
      have HRA := Lib.hid (fun (X : World) (hX : Below w.heap.size w X) => HR1.out.up hX (Nat.le_refl _))
      have HC9 := Lib.hid (HB1.out.trans (HB9.out.mono HB1.out.size))
      go_upto_region 24 with fail
      go_upto_region 25 with (go_at_call 7; refine (r8At_any (.slice a1 z1.length c1) z1 42 60 w9 (HRA.out _ HC9.out) HF1.out (by omega) (by omega) (by omega) (by omega)).mono ?_; rintro e w' ⟨dd, hd0, hd1, rfl, rfl⟩)
      go_upto_region 26 with (go_at_call 7; refine (r8At_any (.slice a1 z1.length c1) z1 43 60 w9 (HRA.out _ HC9.out) HF1.out (by omega) (by omega) (by omega) (by omega)).mono ?_; rintro e w' ⟨bb, hb0, hb1, rfl, rfl⟩)
      have HRC1 := Lib.hid (fun X => rent_any dd bb bb X (by omega) (by omega) (by omega))
      have HRC2 := Lib.hid (fun X => rent_any dd bb 100000 X (by omega) (by omega) (by omega))
      have hR2 : rentV dd bb 100000 = dd := by unfold rentV; rw [if_pos (by omega)]
      have hR1 : rentV dd bb bb ≤ 2 * min dd bb ∧ 0 ≤ rentV dd bb bb ∧ rentV dd bb bb ≤ 200 := by unfold rentV; split <;> omega
      rw [hR2] at HRC2
      obtain ⟨R1, hR1e⟩ : ∃ r, r = rentV dd bb bb := ⟨_, rfl⟩
      rw [← hR1e] at HRC1 hR1
      clear hR2 hR1e
      go_upto_region 27 with (go_at_call 29; refine (HRC1.out w9).mono ?_; rintro e w10 ⟨rfl, hb10⟩)
      have HB10 := Lib.hid (HB9.out.trans (hb10.mono HB9.out.size))
      have HX10 := Lib.hid (HX9.out.up hb10 (Nat.le_refl _))
      clear hb10
      go_upto_region 28 with (go_at_call 29; refine (HRC2.out w10).mono ?_; rintro e w11 ⟨rfl, hb11⟩)
      have HB11 := Lib.hid (HB10.out.trans (hb11.mono HB10.out.size))
      have HX11 := Lib.hid (HX10.out.up hb11 (Nat.le_refl _))
      clear hb11 HX9 HX10 HRC1 HRC2
      have HC11 := Lib.hid (HB1.out.trans (HB11.out.mono HB1.out.size))
      have HAT := Lib.hid (fun (X : World) (hX : Below w.heap.size w X) => r8AtV_any (.slice a1 z1.length c1) z1 44 (i : Int) X (HRA.out _ hX) HF1.out (by omega) (by omega) (by omega) (by omega))
      have har := atV_rng (xs := z1) (i := 44) (n := (i : Int)) (by omega)
      obtain ⟨k, hk⟩ : ∃ k : Nat, atV z1 44 (i : Int) = (k : Int) := ⟨(atV z1 44 (i : Int)).toNat, by omega⟩
      rw [hk] at HAT har
      have hki : k < i := by omega
      clear hk har
      go_upto_region 29 with (first
        | (go_at_call 7; refine (HAT.out w11 HC11.out).mono ?_; rintro e w' ⟨rfl, rfl⟩)
        | (go_at_call 30; refine (HPA.out k hki w11 HX11.out).mono ?_; rintro e w12 ⟨r2, rfl, hr1, hr2, hd12⟩)
        | fail)
      have HB12 := Lib.hid (show Below w1.heap.size w1 w12 by obtain ⟨m, rfl⟩ := hd12; exact below_drewN HB11.out m)
      have HC12 := Lib.hid (HB1.out.trans (HB12.out.mono HB1.out.size))
      clear hd12 HPA HX11 HC11
      have k1 : decide (2 * min dd bb < R1) = false := decide_eq_false (by omega)
      have k2 : (dd != dd) = false := by simp
      have k3 : decide ((r2 : Int) < (k : Int)) = false := decide_eq_false (by omega)
      have k4 : decide ((i : Int) ≤ (r2 : Int)) = false := decide_eq_false (by omega)
      have n3 : ¬ r2 < k := by omega
      have n4 : ¬ i ≤ r2 := by omega
      have hwm : IntKind.i64.wrap (2 * min dd bb) = 2 * min dd bb := IntWalk.i64_in _ (by omega)
      go_upto_region 31 with (go_at_call 7; refine (HAT.out w12 HC12.out).mono ?_; rintro e w' ⟨rfl, rfl⟩)
      clear k1 k2 k3 k4 n3 n4 hwm hd0 hd1 hb0 hb1 hR1 hki hr1 hr2 HAT HB9 HB10 HB11 HC9 hjI hj0 hjn HXS HXL
      go_upto_region 32 with (go_at_call 7; refine (r8At_any (.slice a1 z1.length c1) z1 45 8 w12 (HRA.out _ HC12.out) HF1.out (by omega) (by omega) (by omega) (by omega)).mono ?_; rintro e w' ⟨s, hs0, hs1, rfl, rfl⟩)
      obtain ⟨m, hm⟩ : ∃ m : Nat, (m : Int) = 1 + s := ⟨(1 + s).toNat, by omega⟩
      have hm1 : 1 ≤ m := by omega
      have hm8 : m ≤ 8 := by omega
      rw [← hm]
      clear hm hs0 hs1
      have HRB := Lib.hid (fun (X : World) (hX : Below w.heap.size w X) => HR0.out.up hX (Nat.le_refl _))
      go_upto_region 33 with (go_at_call 31; refine (R8List_any (.slice a0 z0.length c0) z0 w12 (HRB.out _ HC12.out) HF0.out m (by omega)).mono ?_; rintro e w13 ⟨ds, nv, hdl, hdi, rfl, hon, hb13⟩)
      obtain ⟨na, nc, rfl⟩ := hon.rd.shape
      have HN13 := Lib.hid hon.rd
      rw [List.length_map, hdl] at HN13
      try rw [List.length_map]
      try rw [hdl]
      have HB13 := Lib.hid (HB12.out.trans (hb13.mono HB12.out.size))
      have HC13 := Lib.hid (HB1.out.trans (HB13.out.mono HB1.out.size))
      have HDI := Lib.hid (show ∀ d ∈ ds, InH d from hdi)
      have HDL := Lib.hid hdl
      clear hb13 hon hdi hdl HB12 HC12
      have HDV := Lib.hid (fun (b : Nat) (hb : b < 9) (W : World) => run_div8 (P := Try.prog) 53 (div4_is hb) W)
      go_upto_region 34 with (go_at_call 7; go_loud (refine (r8At_any (.slice a1 z1.length c1) z1 46 9 w13 (HRA.out _ HC13.out) HF1.out (by omega) (by omega) (by omega) (by omega)).mono ?_); go_loud (rintro e w' ⟨s, hs0, hs1, rfl, rfl⟩); go_loud (obtain ⟨b, rfl⟩ := Int.eq_ofNat_of_zero_le hs0); go_loud (have hb9 : b < 9 := by omega); go_loud (have hdv := HDV.out b hb9))
      clear hs0 hs1 hdv HDV
      obtain ⟨bf1, bf2, bf3⟩ := by_facts hb9
      have HBF := Lib.hid bf2
      have hshort := short_map HDI.out (by rw [HDL.out]; exact hm1) (by rw [HDL.out]; exact hm8)
      have HSK := Lib.hid (fun X (hX : RdF X (.slice na m nc) (ds.map hF)) => shrinkList_any (.slice na m nc) (ds.map hF) (ds.map fun d => (shrO (hF d) (qF b)).getD 0) (qF b) X hX hshort (by rw [List.length_map, HDL.out]; omega) bf1 bf3 (by rw [List.length_map, List.length_map]) (fun q hq => by
        rw [List.length_map] at hq
        rw [map_at _ _ hq, map_at _ _ hq]
        obtain ⟨y, _, _, _, _, _, _, hy, _⟩ := shr_facts hb9 (HDI.out _ (getD_mem7 hq))
        rw [hy]; rfl))
      have hds1 : 1 ≤ ds.length := by rw [HDL.out]; exact hm1
      have hds8 : ds.length ≤ 8 := by rw [HDL.out]; exact hm8
      have HSI := Lib.hid (fun X (hX : RdF X (.slice na m nc) (ds.map hF)) => sim_first (.slice na m nc) HDI.out hds1 hds8 X hX)
      obtain ⟨bq, hbq⟩ : ∃ q, q = qF b := ⟨_, rfl⟩
      have HBQ := Lib.hid hbq
      rw [← hbq] at HSK ⊢
      clear bf1 bf2 bf3 hshort hbq
      go_upto_region 35 with (go_at_call 32; refine (HSK.out w13 HN13.out).mono ?_; rintro e w14 ⟨sv, rfl, hos, hb14⟩; obtain ⟨sa, sc, rfl⟩ := hos.rd.shape)
      have HB14 := Lib.hid (HB13.out.trans (hb14.mono HB13.out.size))
      have HN14 := Lib.hid (HN13.out.up hb14 (Nat.le_refl _))
      have HS14 := Lib.hid hos.rd
      rw [List.length_map, HDL.out] at HS14
      try rw [List.length_map]
      try rw [HDL.out]
      clear hb14 hos HSK HB13 HC13
      go_upto_region 36 with (go_at_call 33; refine (HSI.out w14 HN14.out).mono ?_; rintro e w15 ⟨uv, V, rfl, hou, hb15, HSV⟩; obtain ⟨ua, uc, rfl⟩ := hou.rd.shape)
      have HB15 := Lib.hid (HB14.out.trans (hb15.mono HB14.out.size))
      have HN15 := Lib.hid (HN14.out.up hb15 (Nat.le_refl _))
      have HS15 := Lib.hid (HS14.out.up hb15 (Nat.le_refl _))
      have HU15 := Lib.hid hou.rd
      rw [List.length_map, HDL.out] at HU15
      try rw [List.length_map]
      try rw [HDL.out]
      have HSJ := Lib.hid (fun X (hX : RdF X (.slice ua m uc) (ds.map V)) => sim_again (.slice ua m uc) hds1 hds8 HSV.out X hX)
      obtain ⟨S, sS0, sS1, sS2⟩ := HSV.out.sums
      have HS0 := Lib.hid sS0
      have HS1 := Lib.hid sS1
      have HS2 := Lib.hid sS2
      clear hb15 hou sS0 sS1 sS2 HB14 HN14 HS14 HSI hds1 hds8 HSV
      go_upto_region 37 with (go_at_call 33; refine (HSJ.out w15 HU15.out).mono ?_; rintro e w16 ⟨tv, L, rfl, hot, hb16, HL3⟩; obtain ⟨ta, tc, rfl⟩ := hot.rd.shape)
      have HB16 := Lib.hid (HB15.out.trans (hb16.mono HB15.out.size))
      have HN16 := Lib.hid (HN15.out.up hb16 (Nat.le_refl _))
      have HS16 := Lib.hid (HS15.out.up hb16 (Nat.le_refl _))
      have HU16 := Lib.hid (HU15.out.up hb16 (Nat.le_refl _))
      have HT16 := Lib.hid hot.rd
      rw [List.length_map, HDL.out] at HT16
      try rw [List.length_map]
      try rw [HDL.out]
      clear hb16 hot HB15 HN15 HS15 HU15 HSJ
      have k1 : ((m : Int) != (m : Int)) = false := by simp
      go_upto_region 39 with fail
      clear k1
      rw [HDL.out] at HS1 HS2
      have hz16 := HB16.out.size
      have HNL := Lib.hid (show (ds.map hF).length = m by rw [List.length_map]; exact HDL.out)
      have HSL := Lib.hid (show (ds.map fun d => (shrO (hF d) bq).getD 0).length = m by rw [List.length_map]; exact HDL.out)
      have HUL := Lib.hid (show (ds.map V).length = m by rw [List.length_map]; exact HDL.out)
      have HTL := Lib.hid (show (ds.map fun d => lessV (V d) L).length = m by rw [List.length_map]; exact HDL.out)
      go_wp2_with fail
      go_loopw [41, 42, 43, 44] (fun sv iv _ _ wr => ∃ p : Nat, iv = .int .i64 p ∧ p ≤ m ∧ sv = .float .f64 (S p) ∧ Hid (Below w16.heap.size w16 wr)) (fun _ iv _ _ _ => m + 1 - (intOf iv).toNat)
      case atStart => exact ⟨0, rfl, Nat.zero_le _, by rw [HS0.out], Lib.hid (Below.refl _ _)⟩
      case round =>
        obtain ⟨p, rfl, hpm, rfl, HBP⟩ := hrel
        obtain ⟨wp, rfl⟩ : ∃ wp, wp = wr := ⟨wr, rfl⟩
        by_cases hlt2 : p < m
        · have hpI : (p : Int) < (m : Int) := by omega
          have hpd : p < ds.length := by rw [HDL.out]; exact hlt2
          obtain ⟨nb, no, rfl, _, cn⟩ := (HN16.out.up HBP.out (Nat.le_refl _)).at (i := p) (by rw [HNL.out]; exact hlt2)
          obtain ⟨sb, so, rfl, _, cs⟩ := (HS16.out.up HBP.out (Nat.le_refl _)).at (i := p) (by rw [HSL.out]; exact hlt2)
          obtain ⟨ub, uo, rfl, _, cu⟩ := (HU16.out.up HBP.out (Nat.le_refl _)).at (i := p) (by rw [HUL.out]; exact hlt2)
          obtain ⟨tb, to2, rfl, _, ct⟩ := (HT16.out.up HBP.out (Nat.le_refl _)).at (i := p) (by rw [HTL.out]; exact hlt2)
          rw [map_at _ _ hpd] at cn cs cu ct
          have hmem := getD_mem7 hpd
          have hst := HS1.out p hlt2
          obtain ⟨a1', a2', a3', a4'⟩ := HL3.out _ hmem
          obtain ⟨y, p1, p2, q1, q2, z, g1, e0, e1, e2, e3, e4, e5, e6, e7, e8, e9⟩ := shr_facts hb9 (HDI.out _ hmem)
          obtain ⟨d, hd⟩ : ∃ d, d = ds.getD p 0 := ⟨_, rfl⟩
          rw [← hd] at cn cs cu ct hst a1' a2' a3' a4' e0 e1 e3 e5
          have hby := HBF.out
          rw [← HBQ.out] at hby e0 e3 e5
          rw [e0, Option.getD_some] at cs
          obtain ⟨g2, f1, f2⟩ := tiny_is a4'
          have b1 := is64_some a1'
          have b2 := is64_some a3'
          obtain ⟨x, hx⟩ : ∃ x, x = hF d := ⟨_, rfl⟩
          obtain ⟨vv, hvv⟩ : ∃ x, x = V d := ⟨_, rfl⟩
          obtain ⟨aa, haa⟩ : ∃ x, x = lessV (V d) L := ⟨_, rfl⟩
          rw [← haa] at ct b2 f1
          rw [← hx] at cn e1 e3 e5
          rw [← hvv] at cu hst a2' b1 f1
          obtain ⟨x6, hx6⟩ : ∃ r, r = c64 x := ⟨_, rfl⟩
          obtain ⟨y6, hy6⟩ : ∃ r, r = c64 y := ⟨_, rfl⟩
          obtain ⟨v6, hv6⟩ : ∃ r, r = c64 vv := ⟨_, rfl⟩
          obtain ⟨t6, ht6⟩ : ∃ r, r = c64 aa := ⟨_, rfl⟩
          obtain ⟨b6, hb6⟩ : ∃ r, r = c64 bq := ⟨_, rfl⟩
          rw [← hx6] at e1 e3 e5
          rw [← hy6] at e2 e8
          rw [← hv6] at hst b1 f1
          rw [← ht6] at b2 f1
          rw [← hb6] at hby e3 e5
          have q0 : (FloatKind.f32.format.order vv 0 == some .lt) = false := a2'
          have q3 : (FloatKind.f64.format.order g2 4562254508917369340 == some .gt) = false := f2
          have q4 : (FloatKind.f64.format.order g1 4562254508917369340 == some .gt) = false := e9
          have c1' := fun (W : World) => run_convert_float_float (P := Try.prog) W 53 57 .f32 .f64 x x6 (by rw [Try.und32]; rfl) Try.und64 e1
          have c2' := fun (W : World) => run_convert_float_float (P := Try.prog) W 53 57 .f32 .f64 y y6 (by rw [Try.und32]; rfl) Try.und64 e2
          have c3' := fun (W : World) => run_convert_float_float (P := Try.prog) W 53 57 .f32 .f64 vv v6 (by rw [Try.und32]; rfl) Try.und64 b1
          have c4' := fun (W : World) => run_convert_float_float (P := Try.prog) W 53 57 .f32 .f64 aa t6 (by rw [Try.und32]; rfl) Try.und64 b2
          have c5' := fun (W : World) => run_convert_float_float (P := Try.prog) W 53 57 .f32 .f64 bq b6 (by rw [Try.und32]; rfl) Try.und64 hby
          have r1' := fun (W : World) => run_sub64 (P := Try.prog) 57 e3 W
          have r2' := fun (ts : Array TypeId) (t : TypeId) (W : World) => run_max64 (P := Try.prog) ts t e4 W
          have r3' := fun (W : World) => run_add64 (P := Try.prog) 57 e5 W
          have r4' := fun (ts : Array TypeId) (t : TypeId) (W : World) => run_min64 (P := Try.prog) ts t e6 W
          have r5' := fun (W : World) => run_add64 (P := Try.prog) 57 e7 W
          have r6' := fun (W : World) => run_add64 (P := Try.prog) 57 hst W
          have HG1 := Lib.hid (fun X => gap_any y6 z g1 X e8)
          have HG2 := Lib.hid (fun X => gap_any t6 v6 g2 X f1)
          obtain ⟨sp, hsp⟩ : ∃ r, r = S (p + 1) := ⟨_, rfl⟩
          rw [← hsp] at r6'
          have HSP := Lib.hid hsp
          obtain ⟨s0, hs0⟩ : ∃ r, r = S p := ⟨_, rfl⟩
          rw [← hs0] at r6' ⊢
          clear hst a1' a2' a3' a4' e0 e1 e2 e3 e4 e5 e6 e7 e8 e9 f1 f2 b1 b2 hby hd hx hvv haa hx6 hy6 hv6 ht6 hb6 hsp hs0 hmem hpd
          go_wp2_with fail
          refine wp_region_cls (fun X => X.cell? ⟨sb, so + p, none⟩ = some (.float .f32 y) ∧ X.cell? ⟨ub, uo + p, none⟩ = some (.float .f32 vv) ∧ X.cell? ⟨tb, to2 + p, none⟩ = some (.float .f32 aa) ∧ Hid (Below w16.heap.size w16 X)) (by kernel_rfl) (by kernel_rfl) (⟨cs, cu, ct, HBP.out.drew⟩) ?_
          repeat (first
            | go_big_quiet_skip
            | (go_big_quiet_want
               apply Exists.intro
               refine ⟨fun X hX => ?_, ?_⟩
               · (try dsimp only at hX)
                 go_simp
                 (first | with_reducible rfl | done | (first | (go_at_call_of 34 y6; refine (HG1.out _).mono ?_; rintro e w1 ⟨rfl, rfl⟩; exact ⟨rfl, hX⟩) | (go_at_call_of 34 t6; refine (HG2.out _).mono ?_; rintro e w1 ⟨rfl, rfl⟩; exact ⟨rfl, hX⟩)))
               go_big_quiet_on
               (try simp only [Act.put, List.setIfInBounds_toArray, List.set_cons_zero, List.set_cons_succ])))
          refine wpQuiet_nil ?_
          intro wq hC
          (try dsimp only at hC)
          obtain ⟨_, cu2, _, HBQ2⟩ := hC
          clear cn cs cu ct HG1 HG2 c1' c2' c4' c5' r1' r2' r3' r4' r5'
          go_wp2_with fail
          go_roundw
          case rel => exact ⟨p + 1, by go_num, by omega, by rw [HSP.out], HBQ2⟩
          case measure => simp [intOf]; omega
        · obtain rfl : p = m := by omega
          have hpp : ¬ (p : Int) < (p : Int) := by omega
          obtain ⟨g3, s1, s2⟩ := under_is HS2.out
          obtain ⟨sp, hsp⟩ : ∃ r, r = S p := ⟨_, rfl⟩
          rw [← hsp] at s1 ⊢
          have HG3 := Lib.hid (fun X => gap_any sp 4607182418800017408 g3 X s1)
          have q1 : (FloatKind.f64.format.order g3 4562254508917369340 == some .lt) = true := s2
          obtain ⟨bx1, bx2, bx3⟩ := by_facts hb9
          rw [← HBQ.out] at bx1 bx2 bx3
          clear s1 s2 hsp HN16 HS16 HU16 HT16 HNL HSL HUL HTL HL3 HS0 HS1 HS2 HDI HDL
          have HC17 := Lib.hid (HB1.out.trans ((HB16.out.trans (HBP.out.mono HB16.out.size)).mono HB1.out.size))
          have HDW := Lib.hid (fun (g : Nat) (hg : g < 17) (W : World) => run_div8 (P := Try.prog) 53 (div2_is hg) W)
          go_upto_region 48 with fail
          go_upto_region 49 with (go_at_call 7; refine (r8At_any (.slice a1 z1.length c1) z1 47 17 wp (HRA.out _ HC17.out) HF1.out (by omega) (by omega) (by omega) (by omega)).mono ?_; rintro e w' ⟨s, hs0, hs1, rfl, rfl⟩; obtain ⟨gg, rfl⟩ := Int.eq_ofNat_of_zero_le hs0; (have hg17 : gg < 17 := by omega); (have hdw := HDW.out gg hg17))
          obtain ⟨h, X, z, t1, t2, t3, t4, t5, t6, t7, t8⟩ := steps_of hg17 hb9
          have hlb := least_h hg17
          obtain ⟨bd, hbd⟩ : ∃ r, r = hF (gg : Int) := ⟨_, rfl⟩
          rw [← hbd] at t4 t6 t7 hlb ⊢
          rw [← HBQ.out] at t1 t7
          have HST := Lib.hid (fun W v (hv : RdR W v (rowH bd)) => steps_any v bd bq h X W hv hlb bx1 bx3 t1 t2 t3 t4)
          obtain ⟨g4, u1, u2⟩ := under_is t8
          simp only [Option.bind_eq_some_iff] at t7
          obtain ⟨p4, u3, u4⟩ := t7
          have u5 := is64_some t5
          have u6 := is64_some t6
          obtain ⟨xx, hxx⟩ : ∃ r, r = X 60 := ⟨_, rfl⟩
          rw [← hxx] at HST u1 u5
          obtain ⟨x6, hx6⟩ : ∃ r, r = c64 xx := ⟨_, rfl⟩
          obtain ⟨d6, hd6⟩ : ∃ r, r = c64 bd := ⟨_, rfl⟩
          obtain ⟨b6, hb6⟩ : ∃ r, r = c64 bq := ⟨_, rfl⟩
          rw [← hx6] at u1 u5
          rw [← hd6] at u3 u6
          rw [← hb6] at u3 bx2
          have q2 : (FloatKind.f64.format.order g4 4576918229304087675 == some .lt) = true := u2
          have c1' := fun (W : World) => run_convert_float_float (P := Try.prog) W 53 57 .f32 .f64 xx x6 (by rw [Try.und32]; rfl) Try.und64 u5
          have c2' := fun (W : World) => run_convert_float_float (P := Try.prog) W 53 57 .f32 .f64 bd d6 (by rw [Try.und32]; rfl) Try.und64 u6
          have c3' := fun (W : World) => run_convert_float_float (P := Try.prog) W 53 57 .f32 .f64 bq b6 (by rw [Try.und32]; rfl) Try.und64 bx2
          have r1' := fun (W : World) => run_sub64 (P := Try.prog) 57 u3 W
          have r2' := fun (ts : Array TypeId) (t : TypeId) (W : World) => run_max64 (P := Try.prog) ts t u4 W
          have HG4 := Lib.hid (fun X => gap_any x6 z g4 X u1)
          have HBW := Lib.hid (show Below wp.heap.size wp (((wp.alloc (.cells #[.float .f32 1065353216] 53)).alloc (.cells #[.float .f32 bd] 53)).alloc (.cells #[.float .f32 0] 53)) from (((Below.refl _ _).alloc (Nat.le_refl _) _).alloc (by simp) _).alloc (by simp; omega) _)
          have HR3 := Lib.hid (fun b2 b3 => rdR_three wp bd b2 b3)
          clear hbd t1 t2 t3 t4 t5 t6 t8 hlb bx1 bx2 bx3 u1 u2 u3 u4 u5 u6 hxx hx6 hd6 hb6 hdw hs0 hs1
          go_upto_region 50 with (go_at_call 35; go_loud (refine (HST.out _ _ (HR3.out _ _ (by first | rfl | simp) (by first | rfl | simp))).mono ?_); rintro e w17 ⟨uv, rfl, hur, ⟨g5, c5, rfl⟩, hb17⟩)
          have HBL := Lib.hid (HC17.out.trans ((HBW.out.trans (hb17.mono HBW.out.size)).mono HC17.out.size))
          obtain ⟨b', off', ee, _, cx⟩ := hur.at (i := 0) (by simp)
          simp only [Option.some.injEq, Addr.mk.injEq, and_true] at ee
          obtain ⟨rfl, rfl⟩ := ee
          rw [Nat.add_zero, show [xx].getD 0 0 = xx from rfl] at cx
          clear hb17 hur HST HR3 HBW HC17 HBP HDW HBF HBQ
          go_wp2_with (first
            | (go_at_call_of 34 sp; refine (HG3.out _).mono ?_; rintro e w' ⟨rfl, rfl⟩)
            | (go_at_call_of 34 x6; refine (HG4.out _).mono ?_; rintro e w' ⟨rfl, rfl⟩)
            | fail)
          go_ret
          exact ⟨rfl, HBL.out⟩

end Go.Proofs.Ytfdaifmfecfchaa

namespace Go.Proofs.Ytfdaifmfecfchaa
open Go.ChangeShapes Go.WideShapes Go.ChangeAt Go.RowKit
set_option linter.unusedVariables false

section
variable {H : Type} {enc : TypeId × Value → H} {w : World} {base : Nat} {spare : Nat → Bool} {held : Bool}

theorem cells_u8 : Try.prog.cellsOf 5 = 1 := by kernel_rfl

set_option maxRecDepth 100000 in
theorem trod_B {fuel : Nat} {cs : List Value} {x : DataW H × List MemPlace} (h : DataW.trod enc Try.prog w base spare held fuel 22 cs = some x) : ∃ v zs, cs = [v] ∧ RdB w v zs ∧ WfB zs := by
  rcases open_ints Try.underlying22 Try.underlying5 cells_u8 h with ⟨rfl, _⟩ | ⟨a, len, cap, zs, rfl, _, hl, hm, hz, _, hcell, hwz⟩
  · exact ⟨_, [], rfl, .inl ⟨rfl, rfl⟩, by intro z hz; simp at hz⟩
  · have hle : len ≤ zs.length := by rw [hz]; split <;> omega
    refine ⟨_, zs.take len, rfl, .inr ⟨a, cap, by simp [Nat.min_eq_left hle], by simp; omega, hm, ?_⟩, fun z hz' => bounds_u8 (hwz z (List.mem_of_mem_take hz'))⟩
    intro i u hi
    have hlt : i < len := by
      have := (List.getElem?_eq_some_iff.1 hi).1
      simp at this; omega
    have h2 := hcell i (by omega)
    rw [h2, ← hi]
    simp [B8, List.getElem?_take, hlt, show i < zs.length by omega]

set_option maxRecDepth 100000 in
theorem arg_B {r : Reach} {b0 : Nat} {v : Value} {d : DataW H} {p : List MemPlace} (hv : Value.okWide Try.prog w r b0 22 v) (h : DataW.Trod enc Try.prog w base spare held 22 v d p) : ∃ zs, RdB w v zs ∧ WfB zs := by
  obtain ⟨a, len, cap, rfl⟩ := okWide_slice Try.underlying22 hv
  obtain ⟨fuel, hf⟩ := h
  obtain ⟨v, zs, e, h1, h2⟩ := trod_B hf
  simp [Value.cells] at e
  subst e
  exact ⟨zs, h1, h2⟩
end
end Go.Proofs.Ytfdaifmfecfchaa
