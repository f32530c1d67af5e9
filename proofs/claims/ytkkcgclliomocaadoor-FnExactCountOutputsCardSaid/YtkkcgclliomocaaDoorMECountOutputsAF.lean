/-
  FnExactCountOutputs: texts joined: CoutI, CoutS, LFnExactCountOutputs.
-/
import Derived.Deep.RegionHeld3
import Derived.Deep.Cut
import Derived.Test.YtkkcgclliomocaaDoorMECountOutputsAE
namespace Go.Proofs.YtkkcgclliomocaaDoor
open Go.RowKit

theorem Split_any (t : ByteArray) (w : World) (h : HasMax w) (ht : t.size ≤ 1048576) :
    Calls Tryd.prog 31 #[.string t, .string ⟨#[10]⟩] w fun e w' => e = .returned (.slice (some ⟨w.heap.size, 0, none⟩) (cutS 10 t).length (cutS 10 t).length) ∧ w' = w.alloc (.cells ((cutS 10 t).map SV).toArray 9) := by
  obtain ⟨m, hm⟩ := h
  refine (Tryd.strings_Split t ⟨#[10]⟩ m w (by omega) hm (by show 1 ≤ 1; omega)).mono ?_
  rintro e w' ⟨rfl, rfl⟩
  have h1 := Lib.splitB_all ⟨#[10]⟩ (by show 1 ≤ 1; omega) 0 _ t rfl
  rw [splitB_cutS] at h1 ⊢
  rw [h1]
  exact ⟨rfl, rfl⟩
/-- The row that a text is cut into, without its last part. -/
theorem slc_lines (t : ByteArray) (w : World) (hz : t.size ≤ 1048576) : Slc (w.alloc (.cells ((cutS 10 t).map SV).toArray 9)) (.slice (some ⟨w.heap.size, 0, none⟩) (linesS t).length (cutS 10 t).length) ((linesS t).map SV) := by
  have hp := cutS_pos 10 t
  have hl := linesS_cnt t
  have hc := cutS_cnt 10 t
  refine .inr ⟨⟨w.heap.size, 0, none⟩, (cutS 10 t).length, by rw [List.length_map], by rw [List.length_map, hl]; omega, by unfold maxLen; omega, fun i u hi => ?_⟩
  have hil : i < (linesS t).length := by have := (List.getElem?_eq_some_iff.1 hi).1; simpa using this
  have h1 : (w.alloc (.cells ((cutS 10 t).map SV).toArray 9)).heap[w.heap.size]? = some (.cells ((cutS 10 t).map SV).toArray 9) := heap_alloc_new w _
  have h2 : ((⟨w.heap.size, 0, none⟩ : Addr).add i) = ⟨w.heap.size, i, none⟩ := by unfold Addr.add; split <;> simp_all
  rw [h2]
  simp only [World.cell?, h1]
  have h3 : ((linesS t).map SV)[i]? = ((cutS 10 t).map SV)[i]? := by
    unfold linesS
    rw [cutS_lines, List.getElem?_map, List.getElem?_map, List.getElem?_dropLast, if_pos (by omega)]
  rw [h3] at hi
  simpa using hi

set_option maxHeartbeats 2000000 in
set_option maxRecDepth 4000 in
theorem linesOf_any (t : ByteArray) (w : World) (hm : HasMax w) (ht : t.size ≤ 1048576) :
    Calls Tryd.prog 18 #[.string t] w fun e w' => ∃ v, e = .returned (.tuple #[v, .bool (coOk t)]) ∧ (coOk t = true → ∃ a cap, v = .slice a (linesS t).length cap ∧ Slc w' (.slice a (linesS t).length cap) ((linesS t).map SV)) ∧ Below w.heap.size w w' := by
  have HM := Lib.hid hm
  clear hm
  by_cases hbig : 16000 < t.size
  · have HOK := Lib.hid (show coOk t = false by unfold coOk; rw [show decide (t.size ≤ 16000) = false by simp; omega]; rfl)
    have hbI : decide ((16000 : Int) < (t.size : Int)) = true := by simp; omega
    go_enter Tryd.func18, Tryd.ntmps18
    go_wp2_with fail
    go_ret2
    exact ⟨_, by rw [HOK.out]; rfl, fun h => (by rw [HOK.out] at h; cases h), Below.refl _ _⟩
  have hbI : ¬ (16000 : Int) < (t.size : Int) := by omega
  have h16 : decide (t.size ≤ 16000) = true := by simp; omega
  have HSP := Lib.hid (fun W h => Split_any t W h ht)
  have HSL := Lib.hid (fun W => slc_lines t W ht)
  obtain ⟨p, hp⟩ : ∃ p, (cutS 10 t).length = p + 1 := ⟨(cutS 10 t).length - 1, by have := cutS_pos 10 t; omega⟩
  have hpb : p ≤ 1048576 := by have := cutS_cnt 10 t; omega
  have hpl : p = (linesS t).length := by rw [linesS_cnt, hp]; rfl
  rw [← hpl] at HSL ⊢
  rw [hp] at HSP HSL

  clear hp hpl
  by_cases he : t.size = 0
  · have ht0 : t = ⟨#[]⟩ := by
      refine ByteArray.ext (Array.ext' ?_)
      have : t.data.toList.length = 0 := by rw [Array.length_toList]; exact he
      rw [List.length_eq_zero_iff.1 this]
    have HOK := Lib.hid (show coOk t = true by unfold coOk; rw [h16, ht0, lastP_empty]; rfl)
    have hes : (t.toList == []) = true := by rw [ht0, ByteArray.toList_eq]; rfl
    clear ht0 h16
    all_goals
      go_enter Tryd.func18, Tryd.ntmps18
      go_wp2_with fail
      refine (HSP.out _ HM.out).mono ?_
      rintro e w1 ⟨rfl, hw1'⟩
      have HW1 := Lib.hid hw1'
      have HB1 := Lib.hid (show Below w.heap.size w w1 by rw [hw1']; exact (Below.refl _ _).alloc (Nat.le_refl _) _)
      clear hw1'
      have hx1 : IntKind.i64.wrap (((p + 1 : Nat) : Int) - 1) = (p : Int) := by rw [show (((p + 1 : Nat) : Int) - 1) = (p : Int) by omega]; exact IntWalk.i64_in _ (by omega)
      have hx2 : IntKind.i64.wrap ((p : Int) + 1 - 1) = (p : Int) := by rw [show ((p : Int) + 1 - 1) = (p : Int) by omega]; exact IntWalk.i64_in _ (by omega)
      have g0 : (0 : Int) ≤ (p : Int) := by omega
      have g1 : (p : Int) ≤ (p : Int) + 1 := by omega
      have g3 : ((p : Int)).toNat = p := by omega
      go_wp2_with fail
      go_ret2
      refine ⟨.slice (some ⟨w.heap.size, 0, none⟩) p (p + 1), by rw [HOK.out]; rfl, fun _ => ⟨some ⟨w.heap.size, 0, none⟩, p + 1, rfl, ?_⟩, HB1.out⟩
      rw [HW1.out]
      exact HSL.out w
  · have hlt1 : t.size - 1 < t.size := by omega
    have hes : (t.toList == []) = false := by
      cases hb : t.toList == []
      · rfl
      · exfalso
        have := eq_of_beq hb
        rw [ByteArray.toList_eq] at this
        have h0 : t.data.toList.length = 0 := by rw [this]; rfl
        rw [Array.length_toList] at h0
        exact he h0
    have hw1 : IntKind.i64.wrap ((t.size : Int) - 1) = ((t.size - 1 : Nat) : Int) := by rw [show ((t.size : Int) - 1) = ((t.size - 1 : Nat) : Int) by omega]; exact IntWalk.i64_in _ (by omega)
    by_cases hnl : t[t.size - 1] = 10
    · have HOK := Lib.hid (show coOk t = true by unfold coOk; rw [h16, show decide ((lastP t).size = 0) = true by rw [decide_eq_true_iff, lastP_size (by omega)]; exact hnl]; rfl)
      have hq : ((t[t.size - 1].toNat : Int) != 10) = false := by rw [hnl]; rfl
      clear hnl h16
      all_goals
      go_enter Tryd.func18, Tryd.ntmps18
      go_wp2_with fail
      refine (HSP.out _ HM.out).mono ?_
      rintro e w1 ⟨rfl, hw1'⟩
      have HW1 := Lib.hid hw1'
      have HB1 := Lib.hid (show Below w.heap.size w w1 by rw [hw1']; exact (Below.refl _ _).alloc (Nat.le_refl _) _)
      clear hw1'
      have hx1 : IntKind.i64.wrap (((p + 1 : Nat) : Int) - 1) = (p : Int) := by rw [show (((p + 1 : Nat) : Int) - 1) = (p : Int) by omega]; exact IntWalk.i64_in _ (by omega)
      have hx2 : IntKind.i64.wrap ((p : Int) + 1 - 1) = (p : Int) := by rw [show ((p : Int) + 1 - 1) = (p : Int) by omega]; exact IntWalk.i64_in _ (by omega)
      have g0 : (0 : Int) ≤ (p : Int) := by omega
      have g1 : (p : Int) ≤ (p : Int) + 1 := by omega
      have g3 : ((p : Int)).toNat = p := by omega
      go_wp2_with fail
      go_ret2
      refine ⟨.slice (some ⟨w.heap.size, 0, none⟩) p (p + 1), by rw [HOK.out]; rfl, fun _ => ⟨some ⟨w.heap.size, 0, none⟩, p + 1, rfl, ?_⟩, HB1.out⟩
      rw [HW1.out]
      exact HSL.out w
    · have HOK := Lib.hid (show coOk t = false by
        unfold coOk
        rw [show decide ((lastP t).size = 0) = false by rw [decide_eq_false_iff_not, lastP_size (by omega)]; exact hnl, Bool.and_false])
      have hq : ((t[t.size - 1].toNat : Int) != 10) = true := by
        simp only [bne_iff_ne, ne_eq]
        intro h
        exact hnl (UInt8.toNat_inj.1 (by show t[t.size - 1].toNat = 10; omega))
      clear hnl h16
      go_enter Tryd.func18, Tryd.ntmps18
      go_wp2_with fail
      go_ret2
      exact ⟨_, by rw [HOK.out]; rfl, fun h => (by rw [HOK.out] at h; cases h), Below.refl _ _⟩


theorem isBad_cases (s : ByteArray) : (isBad s = true ∧ (s.toList == [110, 111]) = true) ∨ (isBad s = true ∧ (s.toList == [110, 111]) = false ∧ (s.toList == [119, 104, 97, 116]) = true) ∨ (isBad s = false ∧ (s.toList == [110, 111]) = false ∧ (s.toList == [119, 104, 97, 116]) = false) := by
  unfold isBad
  cases h1 : s.toList == [110, 111]
  · cases h2 : s.toList == [119, 104, 97, 116]
    · exact .inr (.inr ⟨rfl, rfl, rfl⟩)
    · exact .inr (.inl ⟨rfl, rfl, rfl⟩)
  · exact .inl ⟨rfl, rfl⟩

set_option maxHeartbeats 2000000 in
set_option maxRecDepth 4000 in
theorem coutI_any (t : ByteArray) (w : World) (hm : HasMax w) (ht : t.size ≤ 1048576) :
    Calls Tryd.prog 7 #[.string t] w fun e w' => e = .returned (.tuple #[.int .i64 (coBad t : Nat), .int .i64 (coGood t : Nat), .bool (coOk t)]) ∧ Below w.heap.size w w' := by
  have HLO := Lib.hid (linesOf_any t w hm ht)
  have hle := linesS_le t
  have HNO := Lib.hid (show coOk t = false → coBad t = 0 ∧ coGood t = 0 from coNo)
  have HYE := Lib.hid (show coOk t = true → coBad t = badK (linesS t) (linesS t).length ∧ coGood t = (linesS t).length - badK (linesS t) (linesS t).length from coYes)
  obtain ⟨q, hq⟩ : ∃ q, q = coOk t := ⟨_, rfl⟩
  obtain ⟨LN, hLN⟩ : ∃ LN, LN = linesS t := ⟨_, rfl⟩
  rw [← hq] at HLO HNO HYE ⊢
  rw [← hLN] at HLO HYE hle
  obtain ⟨m, hmn⟩ : ∃ m, m = LN.length := ⟨_, rfl⟩
  rw [← hmn] at HLO HYE hle
  have HML := Lib.hid hmn
  clear hm hq hLN hmn
  go_enter Tryd.func7, Tryd.ntmps7
  go_wp2_with fail
  refine HLO.out.mono ?_
  rintro e w1 ⟨v, rfl, hv, hb1⟩
  have HB1 := Lib.hid hb1
  clear hb1 HLO
  cases q with
  | false =>
    have HR := Lib.hid (HNO.out rfl)
    go_wp2_with fail
    refine bodyPost_ret (v := .tuple #[.int .i64 0, .int .i64 0, .bool false]) (by simp [results, Tryd.results7, go_sem, *]) rfl ?_
    exact ⟨by rw [HR.out.1, HR.out.2]; rfl, HB1.out⟩
  | true =>
    obtain ⟨a, cap, rfl, hsl⟩ := hv rfl
    have HSL := Lib.hid hsl
    have HR := Lib.hid (HYE.out rfl)
    clear hsl hv
    go_wp2_with fail
    go_loop [7, 8, 20] (fun bv gv iv => ∃ k b : Nat, iv = .int .i64 k ∧ k ≤ m ∧ bv = .int .i64 b ∧ gv = .int .i64 ((k - b : Nat) : Int) ∧ b ≤ k ∧ Hid (b = badK LN k)) (fun _ _ iv => m - (intOf iv).toNat)
    case atStart => exact ⟨0, 0, rfl, Nat.zero_le _, rfl, rfl, Nat.le_refl _, Lib.hid rfl⟩
    case round =>
      obtain ⟨k, b, rfl, hk, rfl, rfl, hbk, HBD⟩ := hrel
      by_cases hlt : k < m
      · have hltI : (k : Int) < (m : Int) := by omega
        have hkl : k < LN.length := by rw [← HML.out]; exact hlt
        obtain ⟨bb, off, rfl, hb0, hc⟩ := Slc.at HSL.out (show (LN.map SV)[k]? = some (.string (LN.getD k E0)) by simp [hkl, SV])
        have HST := Lib.hid (show badK LN (k + 1) = badK LN k + (if isBad (LN.getD k E0) = true then 1 else 0) from rfl)
        obtain ⟨s, hs⟩ : ∃ s, s = LN.getD k E0 := ⟨_, rfl⟩
        rw [← hs] at hc HST
        clear hs
        obtain ⟨g, hg⟩ : ∃ g : Nat, g = k - b := ⟨_, rfl⟩
        rw [← hg]
        rcases isBad_cases s with ⟨h1, h2⟩ | ⟨h1, h2, h3⟩ | ⟨h1, h2, h3⟩
        · have HS1 := Lib.hid (show badK LN (k + 1) = b + 1 by rw [HST.out, h1, ← HBD.out]; rfl)
          clear h1
          go_wp2_with fail
          go_round
          case rel => exact ⟨k + 1, b + 1, by go_num, by omega, by go_num, by rw [show k + 1 - (b + 1) = g by omega], by omega, Lib.hid HS1.out.symm⟩
          case measure => simp [intOf]; omega
        · have HS1 := Lib.hid (show badK LN (k + 1) = b + 1 by rw [HST.out, h1, ← HBD.out]; rfl)
          clear h1
          go_wp2_with fail
          go_round
          case rel => exact ⟨k + 1, b + 1, by go_num, by omega, by go_num, by rw [show k + 1 - (b + 1) = g by omega], by omega, Lib.hid HS1.out.symm⟩
          case measure => simp [intOf]; omega
        · have HS1 := Lib.hid (show badK LN (k + 1) = b by rw [HST.out, h1, ← HBD.out]; rfl)
          clear h1
          go_wp2_with fail
          go_round
          case rel => exact ⟨k + 1, b, by go_num, by omega, rfl, by rw [show k + 1 - b = g + 1 by omega]; go_num, by omega, Lib.hid HS1.out.symm⟩
          case measure => simp [intOf]; omega
      · obtain rfl : k = m := by omega
        go_wp2_with fail
        refine bodyPost_ret (v := .tuple #[.int .i64 b, .int .i64 ((k - b : Nat) : Int), .bool true]) (by simp [results, Tryd.results7, go_sem, *]) rfl ?_
        exact ⟨by rw [HR.out.1, HR.out.2, ← HBD.out], HB1.out⟩

end Go.Proofs.YtkkcgclliomocaaDoor

namespace Go.Proofs.YtkkcgclliomocaaDoor
open Go.RowKit

set_option maxHeartbeats 2000000 in
set_option maxRecDepth 4000 in
theorem coutS_any (t : ByteArray) (w : World) (ht : t.size ≤ 1048576) :
    Calls Tryd.prog 6 #[.string t] w fun e w' => e = .returned (.tuple #[.int .i64 (coBad t : Nat), .int .i64 (coGood t : Nat), .bool (coOk t)]) ∧ Below w.heap.size w w' := by
  by_cases hbig : 16000 < t.size
  · have HOK := Lib.hid (show coOk t = false by unfold coOk; rw [show decide (t.size ≤ 16000) = false by simp; omega]; rfl)
    have HR := Lib.hid (coNo HOK.out)
    rw [HR.out.1, HR.out.2, HOK.out]
    have hbI : (16000 : Int) < (t.size : Int) := by omega
    go_enter Tryd.func6, Tryd.ntmps6
    go_wp2_with fail
    refine bodyPost_ret (v := .tuple #[.int .i64 0, .int .i64 0, .bool false]) (by simp [results, Tryd.results6, go_sem, *]) rfl ?_
    exact ⟨rfl, Below.refl _ _⟩
  have hbI : ¬ (16000 : Int) < (t.size : Int) := by omega
  have hle := linesS_le t
  have HLI := Lib.hid (fun W => l08Lines_any t W ht)
  have HNO := Lib.hid (show (lastP t).size ≠ 0 → coOk t = false from fun h => by unfold coOk; rw [show decide ((lastP t).size = 0) = false from decide_eq_false h, Bool.and_false])
  have HYS := Lib.hid (show (lastP t).size = 0 → coOk t = true from fun h => by unfold coOk; rw [show decide ((lastP t).size = 0) = true from decide_eq_true h, show decide (t.size ≤ 16000) = true by simp; omega]; rfl)
  have HCN := Lib.hid (show coOk t = false → coBad t = 0 ∧ coGood t = 0 from coNo)
  have HYE := Lib.hid (show coOk t = true → coBad t = badK (linesS t) (linesS t).length ∧ coGood t = (linesS t).length - badK (linesS t) (linesS t).length from coYes)
  have HLP := Lib.hid (show lastP t = (cutS 10 t).getD ((cutS 10 t).length - 1) E0 from rfl)
  have HLC := Lib.hid (linesS_cnt t)
  have HLS := Lib.hid (show (linesL t.data.toList).map mkB = linesS t from rfl)
  obtain ⟨LN, hLN⟩ : ∃ LN, LN = linesS t := ⟨_, rfl⟩
  rw [← hLN] at HYE hle HLC HLS
  obtain ⟨m, hmn⟩ : ∃ m, m = LN.length := ⟨_, rfl⟩
  rw [← hmn] at HYE hle HLC
  have HML := Lib.hid hmn
  clear hLN hmn
  go_enter Tryd.func6, Tryd.ntmps6
  go_wp2_with fail
  refine (HLI.out _).mono ?_
  rintro e w1 ⟨a, n, cap, hn, rfl, hsl, hb1⟩
  rw [HLS.out] at hsl
  obtain rfl : n = m := by rw [hn, HLC.out]
  rw [hn, ← HLP.out, ← hn]
  have HB1 := Lib.hid hb1
  have HSL := Lib.hid hsl
  obtain ⟨l, hl⟩ : ∃ l, l = lastP t := ⟨_, rfl⟩
  rw [← hl] at HNO HYS ⊢
  clear hb1 hsl hl hn
  by_cases hls : l.size = 0
  · have hl0 : (l.toList == []) = true := by
      rw [ByteArray.toList_eq]
      have : l.data.toList.length = 0 := by rw [Array.length_toList]; exact hls
      rw [List.length_eq_zero_iff.1 this]; rfl
    have HOK := Lib.hid (HYS.out hls)
    have HR := Lib.hid (HYE.out HOK.out)
    clear hls
    go_wp2_with fail
    go_loop [7, 8] (fun bv iv => ∃ k b : Nat, iv = .int .i64 k ∧ k ≤ n ∧ bv = .int .i64 b ∧ b ≤ k ∧ Hid (b = badK LN k)) (fun _ iv => n - (intOf iv).toNat)
    case atStart => exact ⟨0, 0, rfl, Nat.zero_le _, rfl, Nat.le_refl _, Lib.hid rfl⟩
    case round =>
      obtain ⟨k, b, rfl, hk, rfl, hbk, HBD⟩ := hrel
      by_cases hlt : k < n
      · have hltI : (k : Int) < (n : Int) := by omega
        have hkl : k < LN.length := by rw [← HML.out]; exact hlt
        obtain ⟨bb, off, rfl, hb0, hc⟩ := Slc.at HSL.out (show (LN.map SV)[k]? = some (.string (LN.getD k E0)) by simp [hkl, SV])
        have HST := Lib.hid (show badK LN (k + 1) = badK LN k + (if isBad (LN.getD k E0) = true then 1 else 0) from rfl)
        obtain ⟨s, hs⟩ : ∃ s, s = LN.getD k E0 := ⟨_, rfl⟩
        rw [← hs] at hc HST
        clear hs
        rcases isBad_cases s with ⟨h1, h2⟩ | ⟨h1, h2, h3⟩ | ⟨h1, h2, h3⟩
        · have HS1 := Lib.hid (show badK LN (k + 1) = b + 1 by rw [HST.out, h1, ← HBD.out]; rfl)
          clear h1
          go_wp2_with fail
          go_round
          case rel => exact ⟨k + 1, b + 1, by go_num, by omega, by go_num, by omega, Lib.hid HS1.out.symm⟩
          case measure => simp [intOf]; omega
        · have HS1 := Lib.hid (show badK LN (k + 1) = b + 1 by rw [HST.out, h1, ← HBD.out]; rfl)
          clear h1
          go_wp2_with fail
          go_round
          case rel => exact ⟨k + 1, b + 1, by go_num, by omega, by go_num, by omega, Lib.hid HS1.out.symm⟩
          case measure => simp [intOf]; omega
        · have HS1 := Lib.hid (show badK LN (k + 1) = b by rw [HST.out, h1, ← HBD.out]; rfl)
          clear h1
          go_wp2_with fail
          go_round
          case rel => exact ⟨k + 1, b, by go_num, by omega, rfl, by omega, Lib.hid HS1.out.symm⟩
          case measure => simp [intOf]; omega
      · obtain rfl : k = n := by omega
        have hsub : (k : Int) - (b : Int) = ((k - b : Nat) : Int) := by omega
        go_wp2_with fail
        refine bodyPost_ret (v := .tuple #[.int .i64 b, .int .i64 ((k : Int) - (b : Int)), .bool true]) (by simp [results, Tryd.results6, go_sem, *]) rfl ?_
        exact ⟨by rw [HR.out.1, HR.out.2, ← HBD.out, HOK.out, hsub], HB1.out⟩
  · have hl0 : (l.toList == []) = false := by
      cases hb : l.toList == []
      · rfl
      · exfalso
        have := eq_of_beq hb
        rw [ByteArray.toList_eq] at this
        have h0 : l.data.toList.length = 0 := by rw [this]; rfl
        rw [Array.length_toList] at h0
        exact hls h0
    have HOK := Lib.hid (HNO.out hls)
    have HR := Lib.hid (HCN.out HOK.out)
    clear hls
    go_wp2_with fail
    refine bodyPost_ret (v := .tuple #[.int .i64 0, .int .i64 0, .bool false]) (by simp [results, Tryd.results6, go_sem, *]) rfl ?_
    exact ⟨by rw [HR.out.1, HR.out.2, HOK.out]; rfl, HB1.out⟩

end Go.Proofs.YtkkcgclliomocaaDoor

namespace Go.Proofs.YtkkcgclliomocaaDoor
open Go.RowKit

set_option maxHeartbeats 4000000 in
set_option maxRecDepth 100000 in
theorem lawCountOutputs_any (w : World) (a0 : ByteArray) (hmw : HasMax w) :
    Calls Tryd.prog 3 #[.string a0] w fun e w' => e = .returned (.bool true) ∧ Below w.heap.size w w' := by
  have B : Hid (Below w.heap.size w w) := Below.refl _ _
  have HMW := Lib.hid hmw
  clear hmw
  go_enter Tryd.func3, Tryd.ntmps3
  by_cases hg0 : (1048576 : Int) < (a0.size : Nat)
  · go_wp2_with fail
    go_ret
    exact ⟨rfl, B.out⟩
  have hs0 : a0.size ≤ 1048576 := by omega
  have ne0 : ((((coBad a0 : Nat) : Int)) != (((coBad a0 : Nat) : Int))) = false := by simp
  have ne1 : ((((coGood a0 : Nat) : Int)) != (((coGood a0 : Nat) : Int))) = false := by simp
  have ne2 : ((coOk a0) != (coOk a0)) = false := by simp
  go_upto_region 3 with fail
  go_wp2_with fail
  refine (coutS_any a0 _ hs0).mono ?_
  rintro e w1 ⟨rfl, hb⟩
  replace B := Lib.hid (B.out.trans (hb.mono B.out.size))
  have zw1 : w.heap.size ≤ w1.heap.size := hb.size
  clear hb
  go_upto_region 4 with fail
  go_wp2_with fail
  refine (coutI_any a0 _ (HMW.out.up B.out (Nat.le_refl _)) hs0).mono ?_
  rintro e w2 ⟨rfl, hb⟩
  replace B := Lib.hid (B.out.trans (hb.mono B.out.size))
  have zw2 : w1.heap.size ≤ w2.heap.size := hb.size
  clear hb
  go_wp2_with fail
  go_ret
  exact ⟨rfl, B.out⟩

end Go.Proofs.YtkkcgclliomocaaDoor
