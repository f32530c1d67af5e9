/-
  FnDesk: texts joined: HeadI, DeskS, TextS, NumT, RtxS, RtxI.
-/
import Derived.Lib.MinMax
import Derived.Deep.Cut
import Derived.Deep.RegionLaw
import Derived.Deep.RegionHeld3
import Derived.Test.YtgkbbpajkbkgnaaGreatDoorMFnDeskAB
import Derived.Test.YtgkbbpajkbkgnaaGreatDoorMFnDeskAC
import Derived.Test.YtgkbbpajkbkgnaaGreatDoorMFnDeskAD
import Derived.Test.YtgkbbpajkbkgnaaGreatDoorMFnDeskAL
import Derived.Test.YtgkbbpajkbkgnaaGreatDoorMFnDeskAM
import Derived.Test.YtgkbbpajkbkgnaaGreatDoorMFnDeskAQ
import Derived.Test.YtgkbbpajkbkgnaaGreatDoorMFnDeskAS
import Derived.Test.YtgkbbpajkbkgnaaGreatDoorMFnDeskAV
set_option linter.unusedVariables false
set_option linter.unusedSimpArgs false
namespace Go.Proofs.YtgkbbpajkbkgnaaGreatDoor
open Go.RowKit
set_option maxHeartbeats 2000000 in
set_option maxRecDepth 4000 in
theorem headsI_any (v : Value) (js : List JobD) (w : World) (h : RdJ w v js) :
    Calls Tryz.prog 236 #[v] w fun e w' => e = .returned (.tuple #[.int .i64 (headsN js), .bool (areJobsB js)]) ∧ Below w.heap.size w w' := by
  obtain ⟨va, vc, rfl⟩ := h.shape
  have HA := Lib.hid (AreJobs_any _ js w h)
  have HR := Lib.hid h
  obtain ⟨q, hq⟩ : ∃ q, areJobsB js = q := ⟨_, rfl⟩
  rw [hq] at HA ⊢
  have HQ := Lib.hid hq
  clear hq h
  go_enter Tryz.func236, Tryz.ntmps236
  cases q
  · go_wp2_with (go_at_call 51; refine HA.out.mono ?_; rintro e w0 ⟨rfl, hb0⟩)
    go_ret2
    exact ⟨by rw [show headsN js = 0 by unfold headsN; rw [HQ.out]; rfl]; rfl, hb0⟩
  obtain ⟨hn1, hn2, hjf⟩ := jobs_all HQ.out
  have HJ := Lib.hid hjf
  have HRG := Lib.hid (fun r m hm => headK_rng (js := js) (fun i hi => by have := hjf i hi; omega) r m hm)
  have HE := Lib.hid (show headsN js = headsK js js.length by unfold headsN; rw [HQ.out]; rfl)
  have HS := Lib.hid (fun j => show headsK js (j + 1) = max (headsK js j) (headK js (js.getD j J0).ready js.length) from rfl)
  have HK := Lib.hid (fun r m => show headK js r (m + 1) = if r ≤ (js.getD m J0).ready then headK js r m + (js.getD m J0).long else headK js r m from rfl)
  have HS0 := Lib.hid (show headsK js 0 = 0 from rfl)
  have HK0 := Lib.hid (fun r => show headK js r 0 = r from rfl)
  clear hjf HQ
  obtain ⟨n, hn⟩ : ∃ n, n = js.length := ⟨_, rfl⟩
  have HN := Lib.hid hn.symm
  rw [← hn] at HJ HRG HE HS HA HR hn1 hn2 ⊢
  clear hn
  obtain ⟨T, hT⟩ : ∃ T, T = headsK js := ⟨_, rfl⟩
  obtain ⟨U, hU⟩ : ∃ U, U = headK js := ⟨_, rfl⟩
  rw [← hT] at HE HS HS0
  rw [← hU] at HS HK HK0 HRG
  clear hT hU
  go_wp2_with (go_at_call 51; refine HA.out.mono ?_; rintro e w0 ⟨rfl, hb0⟩)
  have HB0 := Lib.hid hb0
  have hz0 := HB0.out.size
  clear hb0 HA
  go_loopw [4, 15] (fun bv jv wr => ∃ j : Nat, jv = .int .i64 j ∧ j ≤ n ∧ bv = .int .i64 (T j) ∧ Hid (Below w.heap.size w wr)) (fun _ jv _ => n + 1 - (intOf jv).toNat)
  case atStart => exact ⟨0, rfl, Nat.zero_le _, by rw [HS0.out], HB0⟩
  case round =>
    obtain ⟨j, rfl, hj, rfl, HB⟩ := hrel
    obtain ⟨wo, rfl⟩ : ∃ wo, wo = wr := ⟨wr, rfl⟩
    by_cases hlt : j < n
    · have hltI : (j : Int) < (n : Int) := by omega
      obtain ⟨jb, jo, rfl, _, c0, c1, c2, c3⟩ := (HR.out.up HB.out (Nat.le_refl _)).at (i := j) (by rw [HN.out]; exact hlt)
      have hjr := HJ.out j hlt
      have hS := HS.out j
      obtain ⟨r, hr⟩ : ∃ r, r = (js.getD j J0).ready := ⟨_, rfl⟩
      rw [← hr] at c3 hjr hS
      have HSJ := Lib.hid hS
      obtain ⟨l0, hl0⟩ : ∃ r, r = (js.getD j J0).long := ⟨_, rfl⟩
      obtain ⟨d0, hd0⟩ : ∃ r, r = (js.getD j J0).due := ⟨_, rfl⟩
      obtain ⟨g0, hg0⟩ : ∃ r, r = (js.getD j J0).weight := ⟨_, rfl⟩
      rw [← hl0] at c0
      rw [← hd0] at c1
      rw [← hg0] at c2
      have hr0 : 0 ≤ r ∧ r ≤ 100000 := by omega
      clear hr hl0 hd0 hg0 hS hjr
      go_upto_region 7 with fail
      refine wp_at fun w1 hw1 => ?_
      obtain ⟨p, hp⟩ : ∃ p, p = wo.heap.size := ⟨_, rfl⟩
      have HP1 := Lib.hid (show Blk w1 p 86 #[.int .i64 l0, .int .i64 d0, .int .i64 g0, .int .i64 r] by subst hw1 hp; exact Blk.new _ _ _)
      have HB1 := Lib.hid (show Below w.heap.size w w1 by subst hw1; exact HB.out.alloc HB.out.size _)
      rw [← hp]
      clear hw1 hp c0 c1 c2 c3
      have e3 := HP1.out.cell 3 rfl
      go_wp2_with fail
      go_loopw [7, 23] (fun ev kv wr => ∃ k : Nat, kv = .int .i64 k ∧ k ≤ n ∧ ev = .int .i64 (U r k) ∧ Hid (Below w1.heap.size w1 wr)) (fun _ kv _ => n + 1 - (intOf kv).toNat)
      case atStart => exact ⟨0, rfl, Nat.zero_le _, by rw [HK0.out], Lib.hid (Below.refl _ _)⟩
      case round =>
        obtain ⟨k, rfl, hk, rfl, HBk⟩ := hrel
        obtain ⟨wk, rfl⟩ : ∃ wk, wk = wr := ⟨wr, rfl⟩
        have HBW := Lib.hid (HB1.out.trans (HBk.out.mono HB1.out.size))
        have HPk := Lib.hid (HP1.out.below HBk.out HP1.out.lt)
        have hU := HRG.out r k hk
        by_cases hkn : k < n
        · have hkI : (k : Int) < (n : Int) := by omega
          obtain ⟨jb2, jo2, ee, _, c0, c1, c2, c3⟩ := (HR.out.up HBW.out (Nat.le_refl _)).at (i := k) (by rw [HN.out]; exact hkn)
          simp only [Option.some.injEq, Addr.mk.injEq, and_true] at ee
          obtain ⟨rfl, rfl⟩ := ee
          have hjr := HJ.out k hkn
          have hS := HK.out r k
          obtain ⟨r2, hr2⟩ : ∃ r, r = (js.getD k J0).ready := ⟨_, rfl⟩
          obtain ⟨l2, hl2⟩ : ∃ r, r = (js.getD k J0).long := ⟨_, rfl⟩
          obtain ⟨d2, hd2⟩ : ∃ r, r = (js.getD k J0).due := ⟨_, rfl⟩
          obtain ⟨g2, hg2⟩ : ∃ r, r = (js.getD k J0).weight := ⟨_, rfl⟩
          rw [← hr2] at c3 hS
          rw [← hl2] at c0 hjr hS
          rw [← hd2] at c1
          rw [← hg2] at c2
          have hl : 1 ≤ l2 ∧ l2 ≤ 1000 := by omega
          clear hr2 hl2 hd2 hg2 hjr
          obtain ⟨u, hu⟩ : ∃ u, u = U r k := ⟨_, rfl⟩
          rw [← hu] at hS hU ⊢
          have hadd : IntKind.i64.wrap (u + l2) = u + l2 := IntWalk.i64_in _ (by omega)
          clear hu
          go_upto_region 11 with fail
          refine wp_at fun w2 hw2 => ?_
          obtain ⟨p2, hp2⟩ : ∃ p, p = wk.heap.size := ⟨_, rfl⟩
          have HP2 := Lib.hid (show Blk w2 p2 86 #[.int .i64 l2, .int .i64 d2, .int .i64 g2, .int .i64 r2] by subst hw2 hp2; exact Blk.new _ _ _)
          have HB2 := Lib.hid (show Below w1.heap.size w1 w2 by subst hw2; exact HBk.out.alloc HBk.out.size _)
          have HPp := Lib.hid (HP1.out.below HB2.out HP1.out.lt)
          rw [← hp2]
          clear hw2 hp2 c0 c1 c2 c3 e3
          have e3 := HPp.out.cell 3 rfl
          have f3 := HP2.out.cell 3 rfl
          have f0 := HP2.out.cell 0 rfl
          by_cases hge : r ≤ r2
          · have HS2 := Lib.hid (show U r (k + 1) = u + l2 by rw [hS, if_pos hge])
            clear hS
            go_wp2_with fail
            go_roundw
            case rel => exact ⟨k + 1, by go_num, by omega, by rw [HS2.out], HB2⟩
            case measure => simp [intOf]; omega
          · have HS2 := Lib.hid (show U r (k + 1) = u by rw [hS, if_neg hge])
            clear hS
            go_wp2_with fail
            go_roundw
            case rel => exact ⟨k + 1, by go_num, by omega, by rw [HS2.out], HB2⟩
            case measure => simp [intOf]; omega
        · obtain rfl : k = n := by omega
          go_wp2_with fail
          go_roundw
          case rel => exact ⟨j + 1, by go_num, by omega, by rw [HSJ.out], HBW⟩
          case measure => simp [intOf]; omega
    · obtain rfl : j = n := by omega
      go_wp2_with fail
      go_ret2
      exact ⟨by rw [HE.out]; rfl, HB.out⟩
end Go.Proofs.YtgkbbpajkbkgnaaGreatDoor

namespace Go.Proofs.YtgkbbpajkbkgnaaGreatDoor
open Go.RowKit
end Go.Proofs.YtgkbbpajkbkgnaaGreatDoor

namespace Go.Proofs.YtgkbbpajkbkgnaaGreatDoor
open Go.RowKit
theorem jnK_size {xs : List Int} (h : Small xs) (k : Nat) : (jnK 44 (wordsN xs) k).size ≤ 19 * xs.length := by
  have h1 := joinBy_size 44 ((wordsN xs).take k) 18 (fun x hx => wordsN_size h x (List.mem_of_mem_take hx))
  have h2 : ((wordsN xs).take k).length ≤ xs.length := by rw [List.length_take, wordsN_len]; omega
  have h3 := Nat.mul_le_mul_left 19 h2
  unfold jnK
  omega
set_option maxHeartbeats 1000000 in
theorem l01Text_any (v : Value) (xs : List Int) (w : World) (h : RdI w v xs) (hs : Small xs) (hl : xs.length ≤ 1000000) :
    Calls Tryz.prog 138 #[v] w fun e w' => e = .returned (.string (listT xs)) ∧ Below w.heap.size w w' := by
  obtain ⟨a, c, rfl⟩ := h.shape
  have HR := Lib.hid h
  have HS := Lib.hid hs
  clear h hs
  by_cases h0 : xs.length = 0
  · have hd : ((xs.length : Int) == 0) = true := by simp [h0]
    have he := Lib.hid (show listT xs = noneS by unfold listT textS; rw [show (wordsN xs).isEmpty = true by rw [List.isEmpty_iff]; exact List.length_eq_zero_iff.1 (by rw [wordsN_len]; exact h0)]; rfl)
    clear h0
    go_enter Tryz.func138, Tryz.ntmps138
    go_wp2_with fail
    go_ret
    exact ⟨by rw [he.out]; rfl, Below.refl _ _⟩
  have hpos : 0 < xs.length := Nat.pos_of_ne_zero h0
  have hd : ((xs.length : Int) == 0) = false := by rw [beq_eq_false_iff_ne]; omega
  have hposI : (0 : Int) < xs.length := by omega
  clear h0
  have HLT := Lib.hid (show listT xs = jnK 44 (wordsN xs) xs.length by
    have := jnK_all 44 (wordsN xs)
    rw [wordsN_len] at this
    rw [this]
    unfold listT textS
    rw [if_neg (by rw [List.isEmpty_iff]; intro e; have := congrArg List.length e; rw [wordsN_len, List.length_nil] at this; omega)])
  obtain ⟨xb, xo, rfl, _, hx⟩ := HR.out.at (i := 0) hpos
  have hsm := HS.out 0 hpos
  have H1 := Lib.hid (show jnK 44 (wordsN xs) 1 = decS (xs.getD 0 0).toNat by rw [jnK_one _ _ (by rw [wordsN_len]; exact hpos), wordsN_at xs 0 hpos])
  obtain ⟨x, hxe⟩ : ∃ x, x = xs.getD 0 0 := ⟨_, rfl⟩
  rw [← hxe] at hx hsm H1
  clear hxe
  obtain ⟨n, rfl⟩ : ∃ n : Nat, x = (n : Int) := ⟨x.toNat, by omega⟩
  rw [Nat.add_zero] at hx
  have HD := Lib.hid (l01Dec_any n (by omega))
  have H2 := Lib.hid (show jnK 44 (wordsN xs) 1 = decS n from H1.out)
  clear hsm H1
  go_enter Tryz.func138, Tryz.ntmps138
  go_wp2_with (go_at_call 135; refine (HD.out _).mono ?_; rintro e w1 ⟨rfl, hb1⟩)
  have HB1 := Lib.hid hb1
  clear hb1 HD
  rw [← H2.out]
  go_loopw [3, 4] (fun sv iv wr => ∃ k : Nat, iv = .int .i64 k ∧ 1 ≤ k ∧ k ≤ xs.length ∧ sv = .string (jnK 44 (wordsN xs) k) ∧ Hid (Below w.heap.size w wr)) (fun _ iv _ => xs.length + 1 - (intOf iv).toNat)
  case atStart => exact ⟨1, rfl, Nat.le_refl _, hpos, rfl, HB1⟩
  case round =>
    clear HB1
    obtain ⟨k, rfl, hk1, hk, rfl, HB⟩ := hrel
    obtain ⟨wo, rfl⟩ : ∃ wo, wo = wr := ⟨wr, rfl⟩
    have hsz := HB.out.size
    by_cases hlt : k < xs.length
    · have hlt' : (k : Int) < xs.length := by omega
      obtain ⟨xb2, xo2, ee, _, hy⟩ := (HR.out.up HB.out (Nat.le_refl _)).at hlt
      simp only [Option.some.injEq, Addr.mk.injEq, and_true] at ee
      obtain ⟨rfl, rfl⟩ := ee
      have hsm := HS.out k hlt
      have HE := Lib.hid (show jnK 44 (wordsN xs) (k + 1) = jnK 44 (wordsN xs) k ++ B1 44 ++ decS (xs.getD k 0).toNat by rw [jnK_succ 44 (wordsN xs) k (by rw [wordsN_len]; exact hlt) hk1, wordsN_at xs k hlt])
      have hjs := jnK_size HS.out k
      obtain ⟨y, hye⟩ : ∃ y, y = xs.getD k 0 := ⟨_, rfl⟩
      rw [← hye] at hy hsm HE
      clear hye
      obtain ⟨m, rfl⟩ : ∃ m : Nat, y = (m : Int) := ⟨y.toNat, by omega⟩
      obtain ⟨S, hS⟩ : ∃ S, S = jnK 44 (wordsN xs) k := ⟨_, rfl⟩
      rw [← hS] at HE hjs ⊢
      have hds := decS_size (n := m) (by omega)
      have HD := Lib.hid (l01Dec_any m (by omega))
      have HE2 := Lib.hid (show jnK 44 (wordsN xs) (k + 1) = S ++ B1 44 ++ decS m from HE.out)
      obtain ⟨D, hD⟩ : ∃ D, D = decS m := ⟨_, rfl⟩
      rw [← hD] at HD HE2 hds
      have n1 : ¬ 9223372036854775807 < 1 + D.size := by omega
      have n2 : ¬ 9223372036854775807 < S.size + (1 + D.size) := by omega
      clear hS hD HE hsm
      go_wp2_with (go_at_call 135; refine (HD.out _).mono ?_; rintro e w2 ⟨rfl, hb2⟩)
      go_roundw
      case rel => exact ⟨k + 1, by go_num, by omega, by omega, by rw [HE2.out, ByteArray.append_assoc]; rfl, Lib.hid (HB.out.trans (hb2.mono hsz))⟩
      case measure => simp [intOf]; omega
    · obtain rfl : k = xs.length := by omega
      go_wp2_with fail
      go_ret
      exact ⟨by rw [HLT.out]; rfl, HB.out⟩
def jobNums (j : JobD) : List Int := [j.long, j.due, j.weight, j.ready]
def numsK (js : List JobD) (k : Nat) : List Int := (js.take k).flatMap jobNums
theorem numsK_succ (js : List JobD) (k : Nat) (h : k < js.length) : numsK js (k + 1) = numsK js k ++ jobNums (js.getD k J0) := by
  unfold numsK
  rw [List.take_add_one, List.flatMap_append, List.getElem?_eq_getElem h, List.getD_eq_getElem?_getD, List.getElem?_eq_getElem h]
  simp
theorem numsK_len (js : List JobD) : ∀ k, k ≤ js.length → (numsK js k).length = 4 * k
  | 0, _ => by simp [numsK]
  | k + 1, h => by rw [numsK_succ js k (by omega), List.length_append, numsK_len js k (by omega)]; simp [jobNums]; omega
theorem slcI_four (w : World) (a b c d : Int) (B : Nat) (hB : B = w.heap.size) : Slc (w.alloc (.cells #[.int .i64 a, .int .i64 b, .int .i64 c, .int .i64 d] 2)) (.slice (some ⟨B, 0, none⟩) 4 4) ([a, b, c, d].map I64) := by
  subst hB
  have h := World.ownsRow_lit (base := w.heap.size) (e := 2) (size := 1) w #[.int .i64 a, .int .i64 b, .int .i64 c, .int .i64 d] 4 (Nat.le_refl _) (by simp [maxLen]) rfl
  exact slc_of_owns h
theorem nums_small {js : List JobD} (h : areJobsB js = true) : ∀ x, x ∈ numsK js js.length → 0 ≤ x ∧ x ≤ 100000 := by
  unfold areJobsB at h
  rw [Bool.and_eq_true, inB_iff, allB_iff] at h
  intro x hx
  unfold numsK at hx
  rw [List.take_length, List.mem_flatMap] at hx
  obtain ⟨j, hj, hx⟩ := hx
  obtain ⟨i, hi, rfl⟩ := List.mem_iff_getElem.1 hj
  have := h.2 i hi
  rw [List.getD_eq_getElem?_getD, List.getElem?_eq_getElem hi] at this
  unfold jobB at this
  simp only [Option.getD_some, Bool.and_eq_true, inB_iff] at this
  unfold jobNums at hx
  simp only [List.mem_cons, List.not_mem_nil, or_false] at hx
  rcases hx with rfl | rfl | rfl | rfl <;> omega
theorem nums_sm {js : List JobD} (h : areJobsB js = true) : Small (numsK js js.length) := by
  intro k hk
  have := nums_small h ((numsK js js.length).getD k 0) (by rw [List.getD_eq_getElem?_getD, List.getElem?_eq_getElem hk]; exact List.getElem_mem _)
  omega
def jobT (js : List JobD) : ByteArray := if areJobsB js = true then listT (numsK js js.length) else E0
set_option maxHeartbeats 1000000 in
set_option maxRecDepth 4000 in
theorem l08Jobs_any (v : Value) (js : List JobD) (w : World) (h : RdJ w v js) (hj : areJobsB js = true) :
    Calls Tryz.prog 139 #[v] w fun e w' => e = .returned (.string (listT (numsK js js.length))) ∧ Below w.heap.size w w' := by
  have hn : js.length ≤ 12 := by
    unfold areJobsB at hj
    rw [Bool.and_eq_true, inB_iff] at hj
    omega
  have HSM := Lib.hid (nums_sm hj)
  obtain ⟨a, c, rfl⟩ := h.shape
  have HR := Lib.hid h
  clear h hj
  go_enter Tryz.func139, Tryz.ntmps139
  go_wp2_with fail
  go_loopw [3, 4] (fun ov iv wr => ∃ (k m : Nat) (b : Option Addr) (cc : Nat), iv = .int .i64 k ∧ k ≤ js.length ∧ m = 4 * k ∧ ov = .slice b m cc ∧ Hid (wr.ownsRow w.heap.size 2 1 (.slice b m cc) m ((numsK js k).map I64)) ∧ Hid (Below w.heap.size w wr)) (fun _ iv _ => js.length + 1 - (intOf iv).toNat)
  case atStart => exact ⟨0, 0, _, _, rfl, Nat.zero_le _, rfl, rfl, Lib.hid (owns_empty w), Lib.hid ((Below.refl _ _).alloc (Nat.le_refl _) _)⟩
  case round =>
    obtain ⟨k, m, b, cc, rfl, hk, hm, rfl, HO, HB⟩ := hrel
    obtain ⟨wo, rfl⟩ : ∃ wo, wo = wr := ⟨wr, rfl⟩
    have hsz := HB.out.size
    by_cases hlt : k < js.length
    · have hlt' : (k : Int) < js.length := by omega
      obtain ⟨jb, jo, rfl, hjb, d0, d1, d2, d3⟩ := (HR.out.up HB.out (Nat.le_refl _)).at hlt
      have HE := Lib.hid (numsK_succ js k hlt)
      obtain ⟨j, hje⟩ : ∃ j, j = js.getD k J0 := ⟨_, rfl⟩
      rw [← hje] at d0 d1 d2 d3 HE
      have HE2 := Lib.hid (show numsK js (k + 1) = numsK js k ++ [j.long, j.due, j.weight, j.ready] from HE.out)
      have hlw : Below w.heap.size wo (wo.drew.alloc (.cells #[.int .i64 j.long, .int .i64 j.due, .int .i64 j.weight, .int .i64 j.ready] 2)) := ((Below.refl _ _).drew).alloc hsz _
      have HLW := Lib.hid hlw
      have hm4 : m + 4 ≤ 1000 := by omega
      have HM := Lib.hid hm
      clear hje HE hlw hm
      go_wp2_with fail
      go_region_law (refine step_app_intsL rfl (.tmp 12) (.tmp 33) rfl w.heap.size (.slice b m cc) m (numsK js k) (by simp [Act.eval, Act.put]) (HO.out.drew.alloc _) _ [j.long, j.due, j.weight, j.ready] (by simp [Act.eval, Act.put]) (slcI_four _ _ _ _ _ _ rfl) (m + 4) (numsK js (k + 1)) (by simp) HE2.out (by omega) (by simp; omega) ?_; intro b3 c3 w3 hown3 hbl3 _ _)
      all_goals
        go_wp2_with fail
        go_roundw
        case rel => exact ⟨k + 1, m + 4, b3, c3, by go_num, by omega, by have := HM.out; omega, rfl, Lib.hid hown3, Lib.hid (HB.out.trans (HLW.out.trans hbl3))⟩
        case measure => simp [intOf]; omega
    · obtain rfl : k = js.length := by omega
      have hrd : RdI wo (.slice b m cc) (numsK js js.length) := slc_of_owns HO.out
      have hnl := numsK_len js js.length (Nat.le_refl _)
      have HT := Lib.hid (l01Text_any _ (numsK js js.length) wo hrd HSM.out (by omega))
      clear hrd hnl hm
      go_wp2_with (go_at_call 138; refine HT.out.mono ?_; rintro e w1 ⟨rfl, hb1⟩)
      go_ret
      exact ⟨rfl, HB.out.trans (hb1.mono hsz)⟩
end Go.Proofs.YtgkbbpajkbkgnaaGreatDoor

namespace Go.Proofs.YtgkbbpajkbkgnaaGreatDoor
open Go.RowKit
theorem hexS_size (n : Nat) : (hexS n).size = 8 := hexK_size n 8
def wordsF (xs : List Nat) : List ByteArray := xs.map fun x => hexS (codeN x)
def numT (xs : List Nat) : ByteArray := textS (wordsF xs)
theorem wordsF_len (xs : List Nat) : (wordsF xs).length = xs.length := by simp [wordsF]
theorem wordsF_take (xs : List Nat) (k : Nat) (h : k < xs.length) : wordsF (xs.take (k + 1)) = wordsF (xs.take k) ++ [hexS (codeN (xs.getD k 0))] := by
  unfold wordsF
  rw [List.take_add_one, List.map_append, List.getElem?_eq_getElem h, List.getD_eq_getElem?_getD, List.getElem?_eq_getElem h]
  rfl
theorem wordsF_at (xs : List Nat) (k : Nat) (h : k < xs.length) : (wordsF xs).getD k E0 = hexS (codeN (xs.getD k 0)) := by
  unfold wordsF
  rw [List.getD_eq_getElem?_getD, List.getD_eq_getElem?_getD, List.getElem?_map, List.getElem?_eq_getElem h]
  rfl
theorem wordsF_size (xs : List Nat) : ∀ x ∈ wordsF xs, x.size ≤ 8 := by
  intro x hx
  obtain ⟨y, _, rfl⟩ := List.mem_map.1 hx
  exact Nat.le_of_eq (hexS_size _)
theorem numT_size (xs : List Nat) (h : xs.length ≤ 256) : (numT xs).size ≤ 2304 := by
  unfold numT textS
  split
  · decide
  · have h1 := joinBy_size 44 (wordsF xs) 8 (wordsF_size xs)
    rw [wordsF_len] at h1
    omega
theorem bitsF_at {xs : List Nat} (h : BitsF xs) {k : Nat} (hk : k < xs.length) : xs.getD k 0 < 4294967296 := by
  rw [List.getD_eq_getElem?_getD, List.getElem?_eq_getElem hk]
  exact h _ (List.getElem_mem _)
theorem areNumbers_any (n : Nat) (w : World) (h : n ≤ 256) : Calls Tryz.prog 117 #[.int .i64 n] w fun e w' => e = .returned (.bool true) ∧ w = w' := by
  have hd : decide ((n : Int) ≤ 256) = true := decide_eq_true (by omega)
  go_enter Tryz.func117, Tryz.ntmps117
  go_wp2_with fail
  go_ret
  exact ⟨rfl, rfl⟩
set_option maxHeartbeats 1000000 in
theorem NumbersText_any (v : Value) (xs : List Nat) (w : World) (h : RdF w v xs) (hs : BitsF xs) (hl : xs.length ≤ 256) :
    Calls Tryz.prog 47 #[v] w fun e w' => e = .returned (.tuple #[.string (numT xs), .bool true]) ∧ Below w.heap.size w w' := by
  obtain ⟨a, c, rfl⟩ := h.shape
  have HR := Lib.hid h
  have HS := Lib.hid hs
  clear h hs
  have HAN := Lib.hid (areNumbers_any xs.length w hl)
  go_enter Tryz.func47, Tryz.ntmps47
  go_upto_region 3 with (go_at_call 117; refine HAN.out.mono ?_; rintro e w1 ⟨rfl, rfl⟩)
  clear HAN
  go_wp2_with fail
  go_loopw [4, 13] (fun ov iv wr => ∃ (k : Nat) (b : Option Addr) (cc : Nat), iv = .int .i64 k ∧ k ≤ xs.length ∧ ov = .slice b k cc ∧ Hid (wr.ownsRow w.heap.size 9 1 (.slice b k cc) k ((wordsF (xs.take k)).map SV)) ∧ Hid (Below w.heap.size w wr)) (fun _ iv _ => xs.length + 1 - (intOf iv).toNat)
  case atStart => exact ⟨0, none, 0, rfl, Nat.zero_le _, rfl, Lib.hid (World.ownsRow_nil _ _ _ _), Lib.hid (Below.refl _ _)⟩
  case round =>
    obtain ⟨k, b, cc, rfl, hk, rfl, HO, HB⟩ := hrel
    obtain ⟨wo, rfl⟩ : ∃ wo, wo = wr := ⟨wr, rfl⟩
    have hsz := HB.out.size
    by_cases hlt : k < xs.length
    · have hlt' : (k : Int) < xs.length := by omega
      obtain ⟨xb, xo, rfl, _, hx⟩ := (HR.out.up HB.out (Nat.le_refl _)).at hlt
      have hsm := bitsF_at HS.out hlt
      have HE := Lib.hid (wordsF_take xs k hlt)
      obtain ⟨x, hxe⟩ : ∃ x, x = xs.getD k 0 := ⟨_, rfl⟩
      rw [← hxe] at hx hsm HE
      clear hxe
      have HD := Lib.hid (hexOf_any x wo hsm)
      obtain ⟨D, hD⟩ : ∃ D, D = hexS (codeN x) := ⟨_, rfl⟩
      rw [← hD] at HD HE
      clear hsm hD
      go_wp2_with (first
        | (go_at_call 118; refine HD.out.mono ?_; rintro e w1 ⟨rfl, rfl⟩)
        | (at_builtin; refine app_strs rfl _ _ rfl w.heap.size (.slice b k cc) k (wordsF (xs.take k)) rfl (HO.out.alloc _) _ [D] rfl (slcS_one wo D _ rfl) (k + 1) (wordsF (xs.take (k + 1))) (by simp) HE.out (by omega) (by simp; omega) ?_; intro b3 c3 w3 hown3 hbl3 _)
        | fail)
      go_roundw
      case rel => exact ⟨k + 1, b3, c3, by go_num, by omega, rfl, Lib.hid hown3, Lib.hid (HB.out.trans (((Below.refl _ _).alloc (by omega) _).trans hbl3))⟩
      case measure => simp [intOf]; omega
    · obtain rfl : k = xs.length := by omega
      have hwl := wordsF_len xs
      have hws := wordsF_size xs
      have hrd : RdSs wo (.slice b xs.length cc) (wordsF xs) := ⟨by have := slc_of_owns HO.out; rw [List.take_length] at this; exact this, fun s hs => by have := hws s hs; simp [maxLen]; omega⟩
      have HJ := Lib.hid (joined_any _ (wordsF xs) wo hrd (fun x hx => by have := hws x hx; omega) (by omega))
      clear hwl hws hrd
      go_wp2_with (go_at_call 119; refine HJ.out.mono ?_; rintro e w1 ⟨rfl, hb1⟩)
      go_ret2
      exact ⟨rfl, HB.out.trans (hb1.mono hsz)⟩
theorem jnF_size (xs : List Nat) (k : Nat) : (jnK 44 (wordsF xs) k).size ≤ 9 * xs.length := by
  have h1 := joinBy_size 44 ((wordsF xs).take k) 8 (fun x hx => wordsF_size xs x (List.mem_of_mem_take hx))
  have h2 : ((wordsF xs).take k).length ≤ xs.length := by rw [List.length_take, wordsF_len]; omega
  have h3 := Nat.mul_le_mul_left 9 h2
  unfold jnK
  omega
set_option maxHeartbeats 1000000 in
theorem l01NText_any (v : Value) (xs : List Nat) (w : World) (h : RdF w v xs) (hs : BitsF xs) (hl : xs.length ≤ 1000000) :
    Calls Tryz.prog 179 #[v] w fun e w' => e = .returned (.string (numT xs)) ∧ Below w.heap.size w w' := by
  obtain ⟨a, c, rfl⟩ := h.shape
  have HR := Lib.hid h
  have HS := Lib.hid hs
  clear h hs
  by_cases h0 : xs.length = 0
  · have hd : ((xs.length : Int) == 0) = true := by simp [h0]
    have he := Lib.hid (show numT xs = noneS by unfold numT textS; rw [show (wordsF xs).isEmpty = true by rw [List.isEmpty_iff]; exact List.length_eq_zero_iff.1 (by rw [wordsF_len]; exact h0)]; rfl)
    clear h0
    go_enter Tryz.func179, Tryz.ntmps179
    go_wp2_with fail
    go_ret
    exact ⟨by rw [he.out]; rfl, Below.refl _ _⟩
  have hpos : 0 < xs.length := Nat.pos_of_ne_zero h0
  have hd : ((xs.length : Int) == 0) = false := by rw [beq_eq_false_iff_ne]; omega
  have hposI : (0 : Int) < xs.length := by omega
  clear h0
  have HLT := Lib.hid (show numT xs = jnK 44 (wordsF xs) xs.length by
    have := jnK_all 44 (wordsF xs)
    rw [wordsF_len] at this
    rw [this]
    unfold numT textS
    rw [if_neg (by rw [List.isEmpty_iff]; intro e; have := congrArg List.length e; rw [wordsF_len, List.length_nil] at this; omega)])
  obtain ⟨xb, xo, rfl, _, hx⟩ := HR.out.at (i := 0) hpos
  have hsm := bitsF_at HS.out hpos
  have H1 := Lib.hid (show jnK 44 (wordsF xs) 1 = hexS (codeN (xs.getD 0 0)) by rw [jnK_one _ _ (by rw [wordsF_len]; exact hpos), wordsF_at xs 0 hpos])
  obtain ⟨x, hxe⟩ : ∃ x, x = xs.getD 0 0 := ⟨_, rfl⟩
  rw [← hxe] at hx hsm H1
  clear hxe
  rw [Nat.add_zero] at hx
  have HD := Lib.hid (fun W => l01Hex_any x W hsm)
  clear hsm
  go_enter Tryz.func179, Tryz.ntmps179
  go_wp2_with (go_at_call 239; refine (HD.out _).mono ?_; rintro e w1 ⟨rfl, hb1⟩)
  have HB1 := Lib.hid hb1
  clear hb1 HD
  rw [← H1.out]
  go_loopw [3, 4] (fun sv iv wr => ∃ k : Nat, iv = .int .i64 k ∧ 1 ≤ k ∧ k ≤ xs.length ∧ sv = .string (jnK 44 (wordsF xs) k) ∧ Hid (Below w.heap.size w wr)) (fun _ iv _ => xs.length + 1 - (intOf iv).toNat)
  case atStart => exact ⟨1, rfl, Nat.le_refl _, hpos, rfl, HB1⟩
  case round =>
    clear HB1
    obtain ⟨k, rfl, hk1, hk, rfl, HB⟩ := hrel
    obtain ⟨wo, rfl⟩ : ∃ wo, wo = wr := ⟨wr, rfl⟩
    have hsz := HB.out.size
    by_cases hlt : k < xs.length
    · have hlt' : (k : Int) < xs.length := by omega
      obtain ⟨xb2, xo2, ee, _, hy⟩ := (HR.out.up HB.out (Nat.le_refl _)).at hlt
      simp only [Option.some.injEq, Addr.mk.injEq, and_true] at ee
      obtain ⟨rfl, rfl⟩ := ee
      have hsm := bitsF_at HS.out hlt
      have HE := Lib.hid (show jnK 44 (wordsF xs) (k + 1) = jnK 44 (wordsF xs) k ++ B1 44 ++ hexS (codeN (xs.getD k 0)) by rw [jnK_succ 44 (wordsF xs) k (by rw [wordsF_len]; exact hlt) hk1, wordsF_at xs k hlt])
      have hjs := jnF_size xs k
      obtain ⟨y, hye⟩ : ∃ y, y = xs.getD k 0 := ⟨_, rfl⟩
      rw [← hye] at hy hsm HE
      clear hye
      obtain ⟨S, hS⟩ : ∃ S, S = jnK 44 (wordsF xs) k := ⟨_, rfl⟩
      rw [← hS] at HE hjs ⊢
      have hds := hexS_size (codeN y)
      have HD := Lib.hid (fun W => l01Hex_any y W hsm)
      obtain ⟨D, hD⟩ : ∃ D, D = hexS (codeN y) := ⟨_, rfl⟩
      rw [← hD] at HD HE hds
      have n1 : ¬ 9223372036854775807 < 1 + D.size := by omega
      have n2 : ¬ 9223372036854775807 < S.size + (1 + D.size) := by omega
      clear hS hD hsm hds
      go_wp2_with (go_at_call 239; refine (HD.out _).mono ?_; rintro e w2 ⟨rfl, hb2⟩)
      go_roundw
      case rel => exact ⟨k + 1, by go_num, by omega, by omega, by rw [HE.out, ByteArray.append_assoc]; rfl, Lib.hid (HB.out.trans (hb2.mono hsz))⟩
      case measure => simp [intOf]; omega
    · obtain rfl : k = xs.length := by omega
      go_wp2_with fail
      go_ret
      exact ⟨by rw [HLT.out]; rfl, HB.out⟩
end Go.Proofs.YtgkbbpajkbkgnaaGreatDoor

namespace Go.Proofs.YtgkbbpajkbkgnaaGreatDoor
open Go.RowKit
def wordsR (r : RowsD) : List ByteArray := [decS r.vars.toNat, numT r.nums, numT r.bnds, numT r.gains]
def rowsS (r : RowsD) : ByteArray := joinBy 59 (wordsR r)
noncomputable def rowT (r : RowsD) : ByteArray := if validR r = true then rowsS r else E0
theorem rowsS_eq (r : RowsD) : rowsS r = decS r.vars.toNat ++ B1 59 ++ numT r.nums ++ B1 59 ++ numT r.bnds ++ B1 59 ++ numT r.gains := by
  unfold rowsS wordsR
  rw [show [decS r.vars.toNat, numT r.nums, numT r.bnds, numT r.gains] = ([decS r.vars.toNat, numT r.nums, numT r.bnds]) ++ [numT r.gains] from rfl, joinBy_snoc _ _ _ (by simp)]
  rw [show [decS r.vars.toNat, numT r.nums, numT r.bnds] = ([decS r.vars.toNat, numT r.nums]) ++ [numT r.bnds] from rfl, joinBy_snoc _ _ _ (by simp)]
  rw [show [decS r.vars.toNat, numT r.nums] = ([decS r.vars.toNat]) ++ [numT r.nums] from rfl, joinBy_snoc _ _ _ (by simp), joinBy_one]
theorem valR_few {r : RowsD} (h : validR r = true) : r.nums.length ≤ 64 ∧ r.bnds.length ≤ 64 ∧ r.gains.length ≤ 64 ∧ 0 ≤ r.vars ∧ r.vars ≤ 8 := by
  have hv := validR_iff.1 h
  have h1 := hv.nl
  have h2 := hv.v8
  have h3 := hv.b8
  have h4 := hv.v1
  have h5 := hv.gl
  have : r.vars * r.bnds.length ≤ 8 * 8 := Int.mul_le_mul h2 (by omega) (by omega) (by omega)
  omega
set_option maxHeartbeats 4000000 in
set_option maxRecDepth 4000 in
theorem l08Rows_any (bb : Nat) (r : RowsD) (a1 a2 a3 : Option Addr) (c1 c2 c3 : Nat) (w : World) (hk : Blk w bb 26 #[.int .i64 r.vars, .slice a1 r.nums.length c1, .slice a2 r.bnds.length c2, .slice a3 r.gains.length c3])
    (p1 : RdF w (.slice a1 r.nums.length c1) r.nums) (p2 : RdF w (.slice a2 r.bnds.length c2) r.bnds) (p3 : RdF w (.slice a3 r.gains.length c3) r.gains) (hv : validR r = true) (b1 : BitsF r.nums) (b2 : BitsF r.bnds) (b3 : BitsF r.gains) :
    Calls Tryz.prog 137 #[.pointer (some ⟨bb, 0, none⟩)] w fun e w' => e = .returned (.string (rowsS r)) ∧ Below w.heap.size w w' := by
  have hf := valR_few hv
  have d0 := hk.cell 0 rfl
  have d1 := hk.cell 1 rfl
  have d2 := hk.cell 2 rfl
  have d3 := hk.cell 3 rfl
  have HE := Lib.hid (rowsS_eq r)
  have P1 := Lib.hid p1
  have P2 := Lib.hid p2
  have P3 := Lib.hid p3
  have B1 := Lib.hid b1
  have B2 := Lib.hid b2
  have B3 := Lib.hid b3
  obtain ⟨n, hn⟩ : ∃ n : Nat, r.vars = (n : Int) := ⟨r.vars.toNat, by omega⟩
  have hn8 : n ≤ 8 := by omega
  have HD := Lib.hid (fun W => l01Dec_any n (by omega) W)
  have s0 := decS_size (n := n) (by omega)
  have s1 := numT_size r.nums (by omega)
  have s2 := numT_size r.bnds (by omega)
  have s3 := numT_size r.gains (by omega)
  have HL1 := Lib.hid (show r.nums.length ≤ 1000000 by omega)
  have HL2 := Lib.hid (show r.bnds.length ≤ 1000000 by omega)
  have HL3 := Lib.hid (show r.gains.length ≤ 1000000 by omega)
  rw [hn] at d0 HE
  have HE2 := Lib.hid (show rowsS r = decS n ++ Go.Proofs.YtgkbbpajkbkgnaaGreatDoor.B1 59 ++ numT r.nums ++ Go.Proofs.YtgkbbpajkbkgnaaGreatDoor.B1 59 ++ numT r.bnds ++ Go.Proofs.YtgkbbpajkbkgnaaGreatDoor.B1 59 ++ numT r.gains from HE.out)
  have H1 := Lib.hid (fun W (h : Below w.heap.size w W) => l01NText_any _ r.nums W (P1.out.up h (Nat.le_refl _)) B1.out HL1.out)
  have H2 := Lib.hid (fun W (h : Below w.heap.size w W) => l01NText_any _ r.bnds W (P2.out.up h (Nat.le_refl _)) B2.out HL2.out)
  have H3 := Lib.hid (fun W (h : Below w.heap.size w W) => l01NText_any _ r.gains W (P3.out.up h (Nat.le_refl _)) B3.out HL3.out)
  obtain ⟨D, hD⟩ : ∃ D, D = decS n := ⟨_, rfl⟩
  obtain ⟨N1, hN1⟩ : ∃ N1, N1 = numT r.nums := ⟨_, rfl⟩
  obtain ⟨N2, hN2⟩ : ∃ N2, N2 = numT r.bnds := ⟨_, rfl⟩
  obtain ⟨N3, hN3⟩ : ∃ N3, N3 = numT r.gains := ⟨_, rfl⟩
  rw [← hD] at HD s0 HE2
  rw [← hN1] at H1 s1 HE2
  rw [← hN2] at H2 s2 HE2
  rw [← hN3] at H3 s3 HE2
  obtain ⟨R, hR⟩ : ∃ R, R = rowsS r := ⟨_, rfl⟩
  rw [← hR] at HE2 ⊢
  have n1 : ¬ 9223372036854775807 < D.size + 1 := by omega
  have n2 : ¬ 9223372036854775807 < D.size + 1 + N1.size := by omega
  have n3 : ¬ 9223372036854775807 < D.size + 1 + N1.size + 1 := by omega
  have n4 : ¬ 9223372036854775807 < D.size + 1 + N1.size + 1 + N2.size := by omega
  have n5 : ¬ 9223372036854775807 < D.size + 1 + N1.size + 1 + N2.size + 1 := by omega
  have n6 : ¬ 9223372036854775807 < D.size + 1 + N1.size + 1 + N2.size + 1 + N3.size := by omega
  clear hk p1 p2 p3 b1 b2 b3 hv hf HE hn hD hN1 hN2 hN3 hR P1 P2 P3 B1 B2 B3 HL1 HL2 HL3 s0 s1 s2 s3
  go_enter Tryz.func137, Tryz.ntmps137
  go_wp2_with fail
  go_region_held3 (fun X => X.cell? ⟨bb, 0, none⟩ = some (.int .i64 n) ∧ X.cell? ⟨bb, 1, none⟩ = some (.slice a1 r.nums.length c1) ∧ X.cell? ⟨bb, 2, none⟩ = some (.slice a2 r.bnds.length c2) ∧ X.cell? ⟨bb, 3, none⟩ = some (.slice a3 r.gains.length c3) ∧ Below w.heap.size w X)
    (first | exact ⟨held_of hbn d0 (Nat.le_refl _), held_of hbn d1 (Nat.le_refl _), held_of hbn d2 (Nat.le_refl _), held_of hbn d3 (Nat.le_refl _), hbn⟩ | exact ⟨d0, d1, d2, d3, (Below.refl _ _).drew⟩)
    (first
      | (go_at_call 135; have hh := (‹_ ∧ _ ∧ _ ∧ _ ∧ Below w.heap.size w _›).2.2.2.2; refine (HD.out _).mono ?_; rintro e w1 ⟨rfl, hb1⟩; have hbn := hh.trans (hb1.mono hh.size))
      | (go_at_call 179; have hh := (‹_ ∧ _ ∧ _ ∧ _ ∧ Below w.heap.size w _›).2.2.2.2; (first | with_reducible refine (H1.out _ hh).mono ?_ | with_reducible refine (H2.out _ hh).mono ?_ | with_reducible refine (H3.out _ hh).mono ?_); rintro e w1 ⟨rfl, hb1⟩; have hbn := hh.trans (hb1.mono hh.size))
      | fail)
  all_goals
    have HBN := Lib.hid hbn
    go_wp2_with fail
    go_ret
    exact ⟨by rw [HE2.out]; rfl, HBN.out⟩
end Go.Proofs.YtgkbbpajkbkgnaaGreatDoor

namespace Go.Proofs.YtgkbbpajkbkgnaaGreatDoor
open Go.RowKit
theorem fill_string (W : World) (s : ByteArray) (B b : Nat) (hb : b = W.heap.size) (hB : B ≤ W.heap.size) : (W.alloc (.cells #[.string s] 9)).ownsRow B 9 1 (.slice (some ⟨b, 0, none⟩) 1 1) 1 ([s].map SV) := by
  subst hb
  exact World.ownsRow_lit (base := B) (e := 9) (size := 1) W #[.string s] 1 hB (by simp [maxLen]) rfl
theorem join_any (v : Value) (c : UInt8) (ws : List ByteArray) (w : World) (h : RdSs w v ws) (hN : ∀ x ∈ ws, x.size ≤ 2304) (h0 : ws.length = 4) :
    Calls Tryz.prog 48 #[v, .string ⟨#[c]⟩] w fun e w' => e = .returned (.string (joinBy c ws)) ∧ Below w.heap.size w w' := by
  obtain ⟨a, cp, rfl⟩ := h.shape
  obtain ⟨b, off, rfl, hbw, _⟩ := h.at (i := 0) (by omega)
  have hcells : ∀ (j : Nat) x, ws[j]? = some x → w.cell? ⟨b, off + j, none⟩ = some (.string x) := by
    intro j x hj
    have hlt := (List.getElem?_eq_some_iff.1 hj).1
    obtain ⟨b', off', e, _, hc⟩ := h.at hlt
    simp only [Option.some.injEq, Addr.mk.injEq, and_true] at e
    obtain ⟨rfl, rfl⟩ := e
    rw [hc, List.getD_eq_getElem?_getD, hj]
    rfl
  have hcap : ws.length ≤ cp := by
    rcases h.1 with ⟨e, _⟩ | ⟨ad, cap, e, h1, h2, _⟩
    · cases e
    · simp only [Value.slice.injEq, List.length_map] at e h1
      obtain ⟨_, _, rfl⟩ := e
      exact h1
  have hsz := joinBy_size c ws 2304 hN
  have hC := Tryz.strings_Join b off cp ws ⟨#[c]⟩ w hcells hbw (by omega) hcap (by
    have e : (Lib.join (ws.map (·.data.toList)) (⟨#[c]⟩ : ByteArray).data.toList).length = (joinBy c ws).size := by simp [joinBy, ByteArray.size]
    rw [e]; omega)
  exact hC
set_option maxHeartbeats 4000000 in
set_option maxRecDepth 4000 in
theorem rowsTextI_any (v : Value) (r : RowsD) (w : World) (h : RdR w v r) (b1 : BitsF r.nums) (b2 : BitsF r.bnds) (b3 : BitsF r.gains) (hp : HasPow w) :
    Calls Tryz.prog 11 #[v] w fun e w' => e = .returned (.tuple #[.string (rowT r), .bool (validR r)]) ∧ Below w.heap.size w w' := by
  obtain ⟨a1, c1, a2, c2, a3, c3, rfl⟩ := h.shape
  obtain ⟨p1, p2, p3⟩ := h.parts
  have HP := Lib.hid h
  have P1 := Lib.hid p1
  have P2 := Lib.hid p2
  have P3 := Lib.hid p3
  have HPW := Lib.hid hp
  obtain ⟨q, hq⟩ : ∃ q, validR r = q := ⟨_, rfl⟩
  have HQ := Lib.hid hq
  have HV := Lib.hid (fun W (h : Below w.heap.size w W) => ValidRows_any _ r W (HP.out.up h (Nat.le_refl _)))
  rw [hq] at HV ⊢
  clear h p1 p2 p3 hp hq
  go_enter Tryz.func11, Tryz.ntmps11
  go_upto_region 1 with fail
  refine wp_at fun W hW => ?_
  have HB := Lib.hid (show Below w.heap.size w W by subst hW; exact (Below.refl _ _).alloc (Nat.le_refl _) _)
  have HK := Lib.hid (show Blk W w.heap.size 26 #[.int .i64 r.vars, .slice a1 r.nums.length c1, .slice a2 r.bnds.length c2, .slice a3 r.gains.length c3] by subst hW; exact Blk.new _ _ _)
  clear hW
  have d0 := HK.out.cell 0 rfl
  have d1 := HK.out.cell 1 rfl
  have d2 := HK.out.cell 2 rfl
  have d3 := HK.out.cell 3 rfl
  cases q
  · go_wp2_with (go_at_call 46; refine (HV.out _ HB.out).mono ?_; rintro e w0 ⟨rfl, hb⟩)
    go_ret2
    exact ⟨by rw [show rowT r = E0 by unfold rowT; rw [HQ.out]; rfl]; rfl, HB.out.trans (hb.mono HB.out.size)⟩
  have hfew := valR_few HQ.out
  obtain ⟨n, hn⟩ : ∃ n : Nat, r.vars = (n : Int) := ⟨r.vars.toNat, by omega⟩
  have hn8 : n ≤ 8 := by omega
  have HW0 := Lib.hid (show wordsR r = [decS n, numT r.nums, numT r.bnds, numT r.gains] by unfold wordsR; rw [hn]; rfl)
  have HT := Lib.hid (show rowT r = joinBy 59 (wordsR r) by unfold rowT; rw [HQ.out]; rfl)
  have HF := Lib.hid hfew
  have HN := Lib.hid hn
  clear hfew hn
  go_upto_region 3 with (go_at_call 46; refine (HV.out _ HB.out).mono ?_; rintro e w0 ⟨rfl, hb⟩)
  have HB0 := Lib.hid (HB.out.trans (hb.mono HB.out.size))
  have HK0 := Lib.hid (HK.out.below hb HK.out.lt)
  have e0 := held_of hb d0 (Nat.le_refl _)
  rw [HN.out] at e0
  clear d0 d1 d2 d3 hb HV HK HB
  have HD := Lib.hid (Decimal_any n (by omega) w0 (HPW.out.up HB0.out (Nat.le_refl _)))
  go_upto_region 4 with (go_at_call 15; refine HD.out.mono ?_; rintro e w1 ⟨rfl, hb⟩)
  refine wp_at fun W4 hW4 => ?_
  have hz0 := HB0.out.size
  have HB4 := Lib.hid (show Below w.heap.size w W4 by subst hW4; exact (HB0.out.trans (hb.mono hz0)).alloc (Nat.le_trans hz0 hb.size) _)
  have HK4 := Lib.hid (show Blk W4 w.heap.size 26 #[.int .i64 r.vars, .slice a1 r.nums.length c1, .slice a2 r.bnds.length c2, .slice a3 r.gains.length c3] by subst hW4; exact (HK0.out.below hb HK0.out.lt).alloc _)
  have HO4 := Lib.hid (show W4.ownsRow w.heap.size 9 1 (.slice (some ⟨w1.heap.size, 0, none⟩) 1 1) 1 (((wordsR r).take 1).map SV) by
    rw [HW0.out]; subst hW4; exact fill_string w1 _ _ _ rfl (Nat.le_trans hz0 hb.size))
  clear hW4 hb HD e0 HB0 HK0 hz0
  have d1 := HK4.out.cell 1 rfl
  have d2 := HK4.out.cell 2 rfl
  have d3 := HK4.out.cell 3 rfl
  have hz4 := HB4.out.size
  have HL4 := Lib.hid (Blk.new W4 24 #[.slice a1 r.nums.length c1, .slice a2 r.bnds.length c2, .slice a3 r.gains.length c3])
  obtain ⟨L, hL⟩ : ∃ L, L = W4.heap.size := ⟨_, rfl⟩
  go_wp2_with fail
  go_loopw [4, 24] (fun ov iv wr => ∃ (k : Nat) (b : Option Addr) (cc : Nat), iv = .int .i64 k ∧ k ≤ 3 ∧ ov = .slice b (k + 1) cc ∧ Hid (wr.ownsRow w.heap.size 9 1 (.slice b (k + 1) cc) (k + 1) (((wordsR r).take (k + 1)).map SV)) ∧ Hid (Blk wr W4.heap.size 24 #[.slice a1 r.nums.length c1, .slice a2 r.bnds.length c2, .slice a3 r.gains.length c3]) ∧ Hid (Below w.heap.size w wr)) (fun _ iv _ => 4 - (intOf iv).toNat)
  case atStart => exact ⟨0, _, _, rfl, by omega, rfl, Lib.hid (HO4.out.alloc _), HL4, Lib.hid (HB4.out.alloc hz4 _)⟩
  case round =>
    clear HL4 HO4 HB4 HK4 d1 d2 d3 hL
    obtain ⟨k, b, cc, rfl, hk, rfl, HO, HL, HBR⟩ := hrel
    obtain ⟨wo, rfl⟩ : ∃ wo, wo = wr := ⟨wr, rfl⟩
    have hszo := HBR.out.size
    by_cases hlt : k < 3
    · obtain ⟨av, cv, X, hcell, hrd, hbits, hlen, hws⟩ : ∃ (av : Option Addr) (cv : Nat) (X : List Nat), wo.cell? ⟨W4.heap.size, k, none⟩ = some (.slice av X.length cv) ∧ RdF w (.slice av X.length cv) X ∧ BitsF X ∧ X.length ≤ 256 ∧ (wordsR r).take (k + 1 + 1) = (wordsR r).take (k + 1) ++ [numT X] := by
        have hf := HF.out
        rcases (by omega : k = 0 ∨ k = 1 ∨ k = 2) with rfl | rfl | rfl
        · exact ⟨a1, c1, r.nums, HL.out.cell 0 rfl, P1.out, b1, by omega, rfl⟩
        · exact ⟨a2, c2, r.bnds, HL.out.cell 1 rfl, P2.out, b2, by omega, rfl⟩
        · exact ⟨a3, c3, r.gains, HL.out.cell 2 rfl, P3.out, b3, by omega, rfl⟩
      have hltI : (k : Int) < 3 := by omega
      have HN := Lib.hid (NumbersText_any _ X wo (hrd.up HBR.out (Nat.le_refl _)) hbits hlen)
      have HWS := Lib.hid hws
      obtain ⟨D, hD⟩ : ∃ D, D = numT X := ⟨_, rfl⟩
      rw [← hD] at HN HWS
      have hlL := HL.out.lt
      clear hrd hbits hlen hws hD b1 b2 b3
      go_wp2_with (first
        | (go_at_call 47; refine HN.out.mono ?_; rintro e w1 ⟨rfl, hb1⟩; have hz1 := Nat.le_trans hszo hb1.size; have HL1 := Lib.hid ((HL.out.below hb1 hlL).alloc (.cells #[.string D] 9)); have HO1 := Lib.hid ((owns_below HO.out hb1 (Nat.le_refl _)).alloc (.cells #[.string D] 9)))
        | (at_builtin; refine app_strs rfl _ _ rfl w.heap.size (.slice b (k + 1) cc) (k + 1) ((wordsR r).take (k + 1)) rfl HO1.out _ [D] rfl (slcS_one w1 D _ rfl) (k + 1 + 1) ((wordsR r).take (k + 1 + 1)) (by simp) HWS.out (by omega) (by simp; omega) ?_; intro b4 c4 w4 hown4 hbl4 hg4; have HL4 := Lib.hid (blkI_grown HL1.out hg4 (HL1.out.not_owned HO1.out (by decide))))
        | fail)
      go_roundw
      case rel => exact ⟨k + 1, b4, c4, by go_num, by omega, rfl, Lib.hid hown4, HL4, Lib.hid (HBR.out.trans ((hb1.mono hszo).trans (((Below.refl _ _).alloc hz1 _).trans hbl4)))⟩
      case measure => simp [intOf]; omega
    · obtain rfl : k = 3 := by omega
      have hf := HF.out
      have s0 := decS_size (n := n) (by omega)
      have hsz : ∀ x ∈ wordsR r, x.size ≤ 2304 := by
        rw [HW0.out]
        intro x hx
        simp only [List.mem_cons, List.not_mem_nil, or_false] at hx
        rcases hx with rfl | rfl | rfl | rfl
        · omega
        · exact numT_size _ (by omega)
        · exact numT_size _ (by omega)
        · exact numT_size _ (by omega)
      have hC : Calls Tryz.prog 48 #[.slice b 4 cc, .string ⟨#[59]⟩] wo fun e w' => e = .returned (.string (joinBy 59 (wordsR r))) ∧ Below wo.heap.size wo w' := by
        have hO := HO.out
        have hrd : RdSs wo (.slice b (wordsR r).length cc) (wordsR r) := ⟨slc_of_owns hO, fun s hs => by have := hsz s hs; simp [maxLen]; omega⟩
        exact join_any _ 59 (wordsR r) wo hrd hsz rfl
      have HC := Lib.hid hC
      clear hC hsz s0 hf
      go_wp2_with (go_at_call 48; refine HC.out.mono ?_; rintro e w1 ⟨rfl, hb1⟩)
      go_ret2
      exact ⟨by rw [HT.out]; rfl, HBR.out.trans (hb1.mono hszo)⟩
end Go.Proofs.YtgkbbpajkbkgnaaGreatDoor
