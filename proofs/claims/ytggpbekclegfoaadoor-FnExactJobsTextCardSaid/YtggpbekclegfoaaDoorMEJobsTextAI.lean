/-
  FnExactJobsText: texts joined: TextS, JtxI, LFnExactJobsText.
-/
import Derived.Deep.RegionLaw
import Derived.Deep.RegionHeld3
import Derived.Deep.Cut
import Derived.Test.YtggpbekclegfoaaDoorMEJobsTextAD
import Derived.Test.YtggpbekclegfoaaDoorMEJobsTextAF
import Derived.Test.YtggpbekclegfoaaDoorMEJobsTextAG
import Derived.Test.YtggpbekclegfoaaDoorMEJobsTextAH
namespace Go.Proofs.YtggpbekclegfoaaDoor
open Go.RowKit

theorem jnK_size {xs : List Int} (h : Small xs) (k : Nat) : (jnK 44 (wordsN xs) k).size ≤ 19 * xs.length := by
  have h1 := joinBy_size 44 ((wordsN xs).take k) 18 (fun x hx => wordsN_size h x (List.mem_of_mem_take hx))
  have h2 : ((wordsN xs).take k).length ≤ xs.length := by rw [List.length_take, wordsN_len]; omega
  have h3 := Nat.mul_le_mul_left 19 h2
  unfold jnK
  omega

set_option maxHeartbeats 1000000 in
theorem l01Text_any (v : Value) (xs : List Int) (w : World) (h : RdI w v xs) (hs : Small xs) (hl : xs.length ≤ 1000000) :
    Calls Tryd.prog 50 #[v] w fun e w' => e = .returned (.string (listT xs)) ∧ Below w.heap.size w w' := by
  obtain ⟨a, c, rfl⟩ := h.shape
  have HR := Lib.hid h
  have HS := Lib.hid hs
  clear h hs
  by_cases h0 : xs.length = 0
  · have hd : ((xs.length : Int) == 0) = true := by simp [h0]
    have he := Lib.hid (show listT xs = noneS by unfold listT textS; rw [show (wordsN xs).isEmpty = true by rw [List.isEmpty_iff]; exact List.length_eq_zero_iff.1 (by rw [wordsN_len]; exact h0)]; rfl)
    clear h0
    go_enter Tryd.func50, Tryd.ntmps50
    go_wp2_with fail
    go_ret
    exact ⟨by rw [he.out]; rfl, Below.refl _ _⟩
  have hpos : 0 < xs.length := Nat.pos_of_ne_zero h0
  have hd : ((xs.length : Int) == 0) = false := by rw [beq_eq_false_iff_ne]; omega
  have hposI : (0 : Int) < xs.length := by omega
  clear h0
  have HLT := Lib.hid (show listT xs = jnK 44 (wordsN xs) xs.length by
    have := jnK_all 44 (wordsN xs)
    rw [wordsN_len] at this
    rw [this]
    unfold listT textS
    rw [if_neg (by rw [List.isEmpty_iff]; intro e; have := congrArg List.length e; rw [wordsN_len, List.length_nil] at this; omega)])
  obtain ⟨xb, xo, rfl, _, hx⟩ := HR.out.at (i := 0) hpos
  have hsm := HS.out 0 hpos
  have H1 := Lib.hid (show jnK 44 (wordsN xs) 1 = decS (xs.getD 0 0).toNat by rw [jnK_one _ _ (by rw [wordsN_len]; exact hpos), wordsN_at xs 0 hpos])
  obtain ⟨x, hxe⟩ : ∃ x, x = xs.getD 0 0 := ⟨_, rfl⟩
  rw [← hxe] at hx hsm H1
  clear hxe
  obtain ⟨n, rfl⟩ : ∃ n : Nat, x = (n : Int) := ⟨x.toNat, by omega⟩
  rw [Nat.add_zero] at hx
  have HD := Lib.hid (l01Dec_any n (by omega))
  have H2 := Lib.hid (show jnK 44 (wordsN xs) 1 = decS n from H1.out)
  clear hsm H1
  go_enter Tryd.func50, Tryd.ntmps50
  go_wp2_with (go_at_call 58; refine (HD.out _).mono ?_; rintro e w1 ⟨rfl, hb1⟩)
  have HB1 := Lib.hid hb1
  clear hb1 HD
  rw [← H2.out]
  go_loopw [3, 4] (fun sv iv wr => ∃ k : Nat, iv = .int .i64 k ∧ 1 ≤ k ∧ k ≤ xs.length ∧ sv = .string (jnK 44 (wordsN xs) k) ∧ Hid (Below w.heap.size w wr)) (fun _ iv _ => xs.length + 1 - (intOf iv).toNat)
  case atStart => exact ⟨1, rfl, Nat.le_refl _, hpos, rfl, HB1⟩
  case round =>
    clear HB1
    obtain ⟨k, rfl, hk1, hk, rfl, HB⟩ := hrel
    obtain ⟨wo, rfl⟩ : ∃ wo, wo = wr := ⟨wr, rfl⟩
    have hsz := HB.out.size
    by_cases hlt : k < xs.length
    · have hlt' : (k : Int) < xs.length := by omega
      obtain ⟨xb2, xo2, ee, _, hy⟩ := (HR.out.up HB.out (Nat.le_refl _)).at hlt
      simp only [Option.some.injEq, Addr.mk.injEq, and_true] at ee
      obtain ⟨rfl, rfl⟩ := ee
      have hsm := HS.out k hlt
      have HE := Lib.hid (show jnK 44 (wordsN xs) (k + 1) = jnK 44 (wordsN xs) k ++ B1 44 ++ decS (xs.getD k 0).toNat by rw [jnK_succ 44 (wordsN xs) k (by rw [wordsN_len]; exact hlt) hk1, wordsN_at xs k hlt])
      have hjs := jnK_size HS.out k
      obtain ⟨y, hye⟩ : ∃ y, y = xs.getD k 0 := ⟨_, rfl⟩
      rw [← hye] at hy hsm HE
      clear hye
      obtain ⟨m, rfl⟩ : ∃ m : Nat, y = (m : Int) := ⟨y.toNat, by omega⟩
      obtain ⟨S, hS⟩ : ∃ S, S = jnK 44 (wordsN xs) k := ⟨_, rfl⟩
      rw [← hS] at HE hjs ⊢
      have hds := decS_size (n := m) (by omega)
      have HD := Lib.hid (l01Dec_any m (by omega))
      have HE2 := Lib.hid (show jnK 44 (wordsN xs) (k + 1) = S ++ B1 44 ++ decS m from HE.out)
      obtain ⟨D, hD⟩ : ∃ D, D = decS m := ⟨_, rfl⟩
      rw [← hD] at HD HE2 hds
      have n1 : ¬ 9223372036854775807 < 1 + D.size := by omega
      have n2 : ¬ 9223372036854775807 < S.size + (1 + D.size) := by omega
      clear hS hD HE hsm
      go_wp2_with (go_at_call 58; refine (HD.out _).mono ?_; rintro e w2 ⟨rfl, hb2⟩)
      go_roundw
      case rel => exact ⟨k + 1, by go_num, by omega, by omega, by rw [HE2.out, ByteArray.append_assoc]; rfl, Lib.hid (HB.out.trans (hb2.mono hsz))⟩
      case measure => simp [intOf]; omega
    · obtain rfl : k = xs.length := by omega
      go_wp2_with fail
      go_ret
      exact ⟨by rw [HLT.out]; rfl, HB.out⟩

/-! ### The numbers of jobs -/
def jobNums (j : JobD) : List Int := [j.long, j.due, j.weight, j.ready]
def numsK (js : List JobD) (k : Nat) : List Int := (js.take k).flatMap jobNums
theorem numsK_succ (js : List JobD) (k : Nat) (h : k < js.length) : numsK js (k + 1) = numsK js k ++ jobNums (js.getD k J0) := by
  unfold numsK
  rw [List.take_add_one, List.flatMap_append, List.getElem?_eq_getElem h, List.getD_eq_getElem?_getD, List.getElem?_eq_getElem h]
  simp
theorem numsK_len (js : List JobD) : ∀ k, k ≤ js.length → (numsK js k).length = 4 * k
  | 0, _ => by simp [numsK]
  | k + 1, h => by rw [numsK_succ js k (by omega), List.length_append, numsK_len js k (by omega)]; simp [jobNums]; omega
theorem slcI_four (w : World) (a b c d : Int) (B : Nat) (hB : B = w.heap.size) : Slc (w.alloc (.cells #[.int .i64 a, .int .i64 b, .int .i64 c, .int .i64 d] 2)) (.slice (some ⟨B, 0, none⟩) 4 4) ([a, b, c, d].map I64) := by
  subst hB
  have h := World.ownsRow_lit (base := w.heap.size) (e := 2) (size := 1) w #[.int .i64 a, .int .i64 b, .int .i64 c, .int .i64 d] 4 (Nat.le_refl _) (by simp [maxLen]) rfl
  exact slc_of_owns h
/-- All numbers of jobs are small. -/
theorem nums_small {js : List JobD} (h : areJobsB js = true) : ∀ x, x ∈ numsK js js.length → 0 ≤ x ∧ x ≤ 100000 := by
  unfold areJobsB at h
  rw [Bool.and_eq_true, inB_iff, allB_iff] at h
  intro x hx
  unfold numsK at hx
  rw [List.take_length, List.mem_flatMap] at hx
  obtain ⟨j, hj, hx⟩ := hx
  obtain ⟨i, hi, rfl⟩ := List.mem_iff_getElem.1 hj
  have := h.2 i hi
  rw [List.getD_eq_getElem?_getD, List.getElem?_eq_getElem hi] at this
  unfold jobB at this
  simp only [Option.getD_some, Bool.and_eq_true, inB_iff] at this
  unfold jobNums at hx
  simp only [List.mem_cons, List.not_mem_nil, or_false] at hx
  rcases hx with rfl | rfl | rfl | rfl <;> omega
theorem nums_sm {js : List JobD} (h : areJobsB js = true) : Small (numsK js js.length) := by
  intro k hk
  have := nums_small h ((numsK js js.length).getD k 0) (by rw [List.getD_eq_getElem?_getD, List.getElem?_eq_getElem hk]; exact List.getElem_mem _)
  omega
def jobT (js : List JobD) : ByteArray := if areJobsB js = true then listT (numsK js js.length) else E0

set_option maxHeartbeats 1000000 in
set_option maxRecDepth 4000 in
theorem l08Jobs_any (v : Value) (js : List JobD) (w : World) (h : RdJ w v js) (hj : areJobsB js = true) :
    Calls Tryd.prog 26 #[v] w fun e w' => e = .returned (.string (listT (numsK js js.length))) ∧ Below w.heap.size w w' := by
  have hn : js.length ≤ 12 := by
    unfold areJobsB at hj
    rw [Bool.and_eq_true, inB_iff] at hj
    omega
  have HSM := Lib.hid (nums_sm hj)
  obtain ⟨a, c, rfl⟩ := h.shape
  have HR := Lib.hid h
  clear h hj
  go_enter Tryd.func26, Tryd.ntmps26
  go_wp2_with fail
  go_loopw [3, 4] (fun ov iv wr => ∃ (k m : Nat) (b : Option Addr) (cc : Nat), iv = .int .i64 k ∧ k ≤ js.length ∧ m = 4 * k ∧ ov = .slice b m cc ∧ Hid (wr.ownsRow w.heap.size 2 1 (.slice b m cc) m ((numsK js k).map I64)) ∧ Hid (Below w.heap.size w wr)) (fun _ iv _ => js.length + 1 - (intOf iv).toNat)
  case atStart => exact ⟨0, 0, _, _, rfl, Nat.zero_le _, rfl, rfl, Lib.hid (owns_empty w), Lib.hid ((Below.refl _ _).alloc (Nat.le_refl _) _)⟩
  case round =>
    obtain ⟨k, m, b, cc, rfl, hk, hm, rfl, HO, HB⟩ := hrel
    obtain ⟨wo, rfl⟩ : ∃ wo, wo = wr := ⟨wr, rfl⟩
    have hsz := HB.out.size
    by_cases hlt : k < js.length
    · have hlt' : (k : Int) < js.length := by omega
      obtain ⟨jb, jo, rfl, hjb, d0, d1, d2, d3⟩ := (HR.out.up HB.out (Nat.le_refl _)).at hlt
      have HE := Lib.hid (numsK_succ js k hlt)
      obtain ⟨j, hje⟩ : ∃ j, j = js.getD k J0 := ⟨_, rfl⟩
      rw [← hje] at d0 d1 d2 d3 HE
      have HE2 := Lib.hid (show numsK js (k + 1) = numsK js k ++ [j.long, j.due, j.weight, j.ready] from HE.out)
      have hlw : Below w.heap.size wo (wo.drew.alloc (.cells #[.int .i64 j.long, .int .i64 j.due, .int .i64 j.weight, .int .i64 j.ready] 2)) := ((Below.refl _ _).drew).alloc hsz _
      have HLW := Lib.hid hlw
      have hm4 : m + 4 ≤ 1000 := by omega
      have HM := Lib.hid hm
      clear hje HE hlw hm
      go_wp2_with fail
      go_region_law (refine step_app_intsL rfl (.tmp 12) (.tmp 33) rfl w.heap.size (.slice b m cc) m (numsK js k) (by simp [Act.eval, Act.put]) (HO.out.drew.alloc _) _ [j.long, j.due, j.weight, j.ready] (by simp [Act.eval, Act.put]) (slcI_four _ _ _ _ _ _ rfl) (m + 4) (numsK js (k + 1)) (by simp) HE2.out (by omega) (by simp; omega) ?_; intro b3 c3 w3 hown3 hbl3 _ _)
      all_goals
        go_wp2_with fail
        go_roundw
        case rel => exact ⟨k + 1, m + 4, b3, c3, by go_num, by omega, by have := HM.out; omega, rfl, Lib.hid hown3, Lib.hid (HB.out.trans (HLW.out.trans hbl3))⟩
        case measure => simp [intOf]; omega
    · obtain rfl : k = js.length := by omega
      have hrd : RdI wo (.slice b m cc) (numsK js js.length) := slc_of_owns HO.out
      have hnl := numsK_len js js.length (Nat.le_refl _)
      have HT := Lib.hid (l01Text_any _ (numsK js js.length) wo hrd HSM.out (by omega))
      clear hrd hnl hm
      go_wp2_with (go_at_call 50; refine HT.out.mono ?_; rintro e w1 ⟨rfl, hb1⟩)
      go_ret
      exact ⟨rfl, HB.out.trans (hb1.mono hsz)⟩

theorem jobsTextS_any (v : Value) (js : List JobD) (w : World) (h : RdJ w v js) :
    Calls Tryd.prog 8 #[v] w fun e w' => e = .returned (.tuple #[.string (jobT js), .bool (areJobsB js)]) ∧ Below w.heap.size w w' := by
  have HA := Lib.hid (l06Are_any v js w h)
  obtain ⟨q, hq⟩ : ∃ q, areJobsB js = q := ⟨_, rfl⟩
  rw [hq] at HA ⊢
  have HQ := Lib.hid hq
  clear hq
  go_enter Tryd.func8, Tryd.ntmps8
  cases q
  · clear h
    go_wp2_with (go_at_call 25; refine HA.out.mono ?_; rintro e w' ⟨rfl, rfl⟩)
    go_ret2
    exact ⟨by rw [show jobT js = E0 by unfold jobT; rw [HQ.out]; rfl]; rfl, Below.refl _ _⟩
  · have HJ := Lib.hid (l08Jobs_any v js w h HQ.out)
    clear h
    go_wp2_with (first
      | (go_at_call 25; refine HA.out.mono ?_; rintro e w' ⟨rfl, rfl⟩)
      | (go_at_call 26; refine HJ.out.mono ?_; rintro e w1 ⟨rfl, hb⟩))
    go_ret2
    exact ⟨by rw [show jobT js = listT (numsK js js.length) by unfold jobT; rw [HQ.out]; rfl]; rfl, hb⟩

end Go.Proofs.YtggpbekclegfoaaDoor

namespace Go.Proofs.YtggpbekclegfoaaDoor
open Go.RowKit

theorem areItems_any (v : Value) (xs : List Int) (w : World) (h : RdI w v xs) :
    Calls Tryd.prog 53 #[v] w fun e w' => e = .returned (.bool (decide (xs.length ≤ 64) && allIn (-1000000000000000) 1000000000000000 xs)) ∧ w = w' := by
  obtain ⟨a, c, rfl⟩ := h.shape
  have hl := h.len
  simp only [maxLen] at hl
  have HW := Lib.hid (allWithin_any _ xs (-1000000000000000) 1000000000000000 w h)
  clear h
  go_enter Tryd.func53, Tryd.ntmps53
  by_cases h1 : xs.length ≤ 64
  · have d1 : decide ((xs.length : Int) ≤ 64) = true := decide_eq_true (by omega)
    have HE := Lib.hid (show decide (xs.length ≤ 64) = true from decide_eq_true h1)
    clear h1
    go_wp2_with (go_at_call 78; refine HW.out.mono ?_; rintro e w' ⟨rfl, rfl⟩)
    go_ret
    exact ⟨by rw [HE.out]; rfl, rfl⟩
  · have d1 : decide ((xs.length : Int) ≤ 64) = false := decide_eq_false (by omega)
    have HE := Lib.hid (show decide (xs.length ≤ 64) = false from decide_eq_false h1)
    clear h1
    go_wp2_with fail
    go_ret
    exact ⟨by rw [HE.out]; rfl, rfl⟩

/-- A list of few numbers, none of them below 0. -/
theorem listTextOk_any (v : Value) (xs : List Int) (w : World) (h : RdI w v xs) (hs : Small xs) (hl : xs.length ≤ 64) (hin : allIn (-1000000000000000) 1000000000000000 xs = true) (hp : HasPow w) :
    Calls Tryd.prog 29 #[v] w fun e w' => e = .returned (.tuple #[.string (listT xs), .bool true]) ∧ Below w.heap.size w w' := by
  have ha := areItems_any v xs w h
  rw [hin, show decide (xs.length ≤ 64) = true from decide_eq_true hl] at ha
  have HA := Lib.hid ha
  have HL := Lib.hid (listTextI_any v xs w h hs (by omega) hp)
  clear ha h hs hin hp
  go_enter Tryd.func29, Tryd.ntmps29
  go_wp2_with (first
    | (go_at_call 53; refine HA.out.mono ?_; rintro e w' ⟨rfl, rfl⟩)
    | (go_at_call 54; refine HL.out.mono ?_; rintro e w1 ⟨rfl, hb⟩))
  go_ret2
  exact ⟨rfl, hb⟩

theorem nums_in {js : List JobD} (h : areJobsB js = true) : allIn (-1000000000000000) 1000000000000000 (numsK js js.length) = true := by
  refine allIn_true fun i hi => ?_
  have := nums_small h ((numsK js js.length).getD i 0) (by rw [List.getD_eq_getElem?_getD, List.getElem?_eq_getElem hi]; exact List.getElem_mem _)
  rw [inB_iff]; omega

set_option maxHeartbeats 1000000 in
set_option maxRecDepth 4000 in
theorem jobsTextI_any (v : Value) (js : List JobD) (w : World) (h : RdJ w v js) (hp : HasPow w) :
    Calls Tryd.prog 10 #[v] w fun e w' => e = .returned (.tuple #[.string (jobT js), .bool (areJobsB js)]) ∧ Below w.heap.size w w' := by
  have HA := Lib.hid (AreJobs_any v js w h)
  obtain ⟨q, hq⟩ : ∃ q, areJobsB js = q := ⟨_, rfl⟩
  rw [hq] at HA ⊢
  have HQ := Lib.hid hq
  have HPW := Lib.hid hp
  clear hq hp
  obtain ⟨a, c, rfl⟩ := h.shape
  have HR := Lib.hid h
  clear h
  go_enter Tryd.func10, Tryd.ntmps10
  cases q
  · go_wp2_with (go_at_call 28; refine HA.out.mono ?_; rintro e w0 ⟨rfl, hb⟩)
    go_ret2
    exact ⟨by rw [show jobT js = E0 by unfold jobT; rw [HQ.out]; rfl]; rfl, hb⟩
  have hn : js.length ≤ 12 := by
    have hj := HQ.out
    unfold areJobsB at hj
    rw [Bool.and_eq_true, inB_iff] at hj
    omega
  go_upto_region 3 with (go_at_call 28; refine HA.out.mono ?_; rintro e w0 ⟨rfl, hb⟩)
  have HB0 := Lib.hid hb
  clear hb HA
  go_wp2_with fail
  go_loopw [4, 12] (fun ov iv wr => ∃ (k m : Nat) (b : Option Addr) (cc : Nat), iv = .int .i64 k ∧ k ≤ js.length ∧ Hid (m = 4 * k) ∧ ov = .slice b m cc ∧ Hid (wr.ownsRow w.heap.size 2 1 (.slice b m cc) m ((numsK js k).map I64)) ∧ Hid (Below w.heap.size w wr)) (fun _ iv _ => js.length + 1 - (intOf iv).toNat)
  case atStart => exact ⟨0, 0, none, 0, rfl, Nat.zero_le _, Lib.hid rfl, rfl, Lib.hid (World.ownsRow_nil _ _ _ _), HB0⟩
  case round =>
    obtain ⟨k, m, b, cc, rfl, hk, HM, rfl, HO, HB⟩ := hrel
    obtain ⟨wo, rfl⟩ : ∃ wo, wo = wr := ⟨wr, rfl⟩
    have hsz := HB.out.size
    by_cases hlt : k < js.length
    · have hlt' : (k : Int) < js.length := by omega
      obtain ⟨jb, jo, rfl, hjb, d0, d1, d2, d3⟩ := (HR.out.up HB.out (Nat.le_refl _)).at hlt
      have HE := Lib.hid (numsK_succ js k hlt)
      obtain ⟨j, hje⟩ : ∃ j, j = js.getD k J0 := ⟨_, rfl⟩
      rw [← hje] at d0 d1 d2 d3 HE
      have HE2 := Lib.hid (show numsK js (k + 1) = numsK js k ++ [j.long, j.due, j.weight, j.ready] from HE.out)
      have hm4 : m + 4 ≤ 1000 := by have := HM.out; omega
      clear hje HE
      have hal : Below w.heap.size wo ((wo.alloc (.cells #[.int .i64 j.long, .int .i64 j.due, .int .i64 j.weight, .int .i64 j.ready] 49)).alloc (.cells #[.int .i64 j.long, .int .i64 j.due, .int .i64 j.weight, .int .i64 j.ready] 2)) := ((Below.refl _ _).alloc hsz _).alloc (by simp; omega) _
      have HAL := Lib.hid hal
      clear hal
      go_wp2_with (go_loud (at_builtin; refine app_ints rfl _ _ rfl w.heap.size (.slice b m cc) m (numsK js k) rfl ((HO.out.alloc _).alloc _) _ [j.long, j.due, j.weight, j.ready] rfl (slcI_four _ _ _ _ _ _ (by simp)) (m + 4) (numsK js (k + 1)) (by simp) HE2.out (by omega) (Nat.le_trans hsz HAL.out.size) ?_; intro b3 c3 w3 hown3 hbl3 _ _))
      go_roundw
      case rel => exact ⟨k + 1, m + 4, b3, c3, by go_num, by omega, Lib.hid (by have := HM.out; omega), rfl, Lib.hid hown3, Lib.hid (HB.out.trans (HAL.out.trans hbl3))⟩
      case measure => simp [intOf]; omega
    · obtain rfl : k = js.length := by omega
      have hrd : RdI wo (.slice b m cc) (numsK js js.length) := slc_of_owns HO.out
      have hnl := numsK_len js js.length (Nat.le_refl _)
      have HT := Lib.hid (listTextOk_any _ (numsK js js.length) wo hrd (nums_sm HQ.out) (by omega) (nums_in HQ.out) (HPW.out.up HB.out (Nat.le_refl _)))
      clear hrd hnl
      go_wp2_with (go_at_call 29; refine HT.out.mono ?_; rintro e w1 ⟨rfl, hb1⟩)
      go_ret2
      exact ⟨by rw [show jobT js = listT (numsK js js.length) by unfold jobT; rw [HQ.out]; rfl]; rfl, HB.out.trans (hb1.mono hsz)⟩

end Go.Proofs.YtggpbekclegfoaaDoor

namespace Go.Proofs.YtggpbekclegfoaaDoor
open Go.RowKit

set_option maxHeartbeats 4000000 in
set_option maxRecDepth 100000 in
theorem lawJobsText_any (w : World) (v0 : Value) (z0 : List JobD) (r0 : RdJ w v0 z0) (hpw : HasPow w) :
    Calls Tryd.prog 3 #[v0] w fun e w' => e = .returned (.bool true) ∧ Below w.heap.size w w' := by
  obtain ⟨x0, c0, rfl⟩ := r0.shape
  have l0_0 : z0.length ≤ 9223372036854775807 := by have := RdJ.len r0; unfold maxLen at this; omega
  have RP0 := Lib.hid r0
  clear r0
  have B : Hid (Below w.heap.size w w) := Below.refl _ _
  have HPW := Lib.hid hpw
  clear hpw
  go_enter Tryd.func3, Tryd.ntmps3
  go_upto_region 2 with fail
  go_wp2_with fail
  refine (szJ_any _ z0 _ _ (RP0.out.up B.out (Nat.le_refl _)) (by decide) (by decide)).mono ?_
  rintro e w1 ⟨s0, rfl, sa0, sb0, sc0, hb⟩
  replace B := Lib.hid (B.out.trans (hb.mono B.out.size))
  have zw1 : w.heap.size ≤ w1.heap.size := hb.size
  clear hb
  by_cases hn0 : s0 < 0
  · go_wp2_with fail
    go_ret
    exact ⟨rfl, B.out⟩
  have hs0 : bulkJ z0 ≤ 1048576 := by have := sc0 (by omega); omega
  clear sa0 sb0 sc0
  have ne1 : ((areJobsB z0) != (areJobsB z0)) = false := by simp
  go_upto_region 5 with fail
  go_wp2_with fail
  refine (toJ_any _ z0 _ (RP0.out.up B.out (Nat.le_refl _)) hs0).mono ?_
  rintro e w2 ⟨vc0, rfl, c0, hb⟩
  replace c0 := Lib.hid c0
  replace B := Lib.hid (B.out.trans (hb.mono B.out.size))
  have zw2 : w1.heap.size ≤ w2.heap.size := hb.size
  clear hb
  go_wp2_with fail
  refine (jobsTextS_any _ z0 _ c0.out.rd).mono ?_
  rintro e w3 ⟨rfl, hb⟩
  replace B := Lib.hid (B.out.trans (hb.mono B.out.size))
  replace c0 := Lib.hid (c0.out.up hb (Nat.le_refl _))
  have zw3 : w2.heap.size ≤ w3.heap.size := hb.size
  clear hb
  clear c0
  go_upto_region 6 with fail
  go_wp2_with fail
  refine (toJ_any _ z0 _ (RP0.out.up B.out (Nat.le_refl _)) hs0).mono ?_
  rintro e w4 ⟨vcp0, rfl, cp0, hb⟩
  replace cp0 := Lib.hid cp0
  replace B := Lib.hid (B.out.trans (hb.mono B.out.size))
  have zw4 : w3.heap.size ≤ w4.heap.size := hb.size
  clear hb
  go_upto_region 7 with fail
  go_wp2_with fail
  refine (jobsTextI_any _ z0 _ cp0.out.rd (HPW.out.up B.out (Nat.le_refl _))).mono ?_
  rintro e w5 ⟨rfl, hb⟩
  replace B := Lib.hid (B.out.trans (hb.mono B.out.size))
  replace cp0 := Lib.hid (cp0.out.up hb (Nat.le_refl _))
  have zw5 : w4.heap.size ≤ w5.heap.size := hb.size
  clear hb
  go_upto_region 10 with fail
  go_wp2_with fail
  refine (toJ_any _ z0 _ (RP0.out.up B.out (Nat.le_refl _)) hs0).mono ?_
  rintro e w6 ⟨vc0, rfl, c0, hb⟩
  replace c0 := Lib.hid c0
  replace B := Lib.hid (B.out.trans (hb.mono B.out.size))
  replace cp0 := Lib.hid (cp0.out.up hb (Nat.le_refl _))
  have zw6 : w5.heap.size ≤ w6.heap.size := hb.size
  clear hb
  go_wp2_with fail
  refine (eqJ_same _ _ z0 _ cp0.out.rd c0.out.rd).mono ?_
  rintro e w7 ⟨rfl, hb⟩
  replace B := Lib.hid (B.out.trans (hb.mono B.out.size))
  replace cp0 := Lib.hid (cp0.out.up hb (Nat.le_refl _))
  replace c0 := Lib.hid (c0.out.up hb (Nat.le_refl _))
  have zw7 : w6.heap.size ≤ w7.heap.size := hb.size
  clear hb
  clear c0
  go_wp2_with fail
  go_ret
  exact ⟨rfl, B.out⟩

end Go.Proofs.YtggpbekclegfoaaDoor
