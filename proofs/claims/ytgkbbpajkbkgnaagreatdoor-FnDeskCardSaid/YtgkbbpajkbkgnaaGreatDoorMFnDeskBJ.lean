/-
  FnDesk: texts joined: CoutI, ScrM, NewDesk, TopM, DrwL.
-/
import Derived.Deep.RegionHeld3
import Derived.Test.YtgkbbpajkbkgnaaGreatDoorMFnDeskAM
import Derived.Test.YtgkbbpajkbkgnaaGreatDoorMFnDeskAP
import Derived.Test.YtgkbbpajkbkgnaaGreatDoorMFnDeskBA
import Derived.Test.YtgkbbpajkbkgnaaGreatDoorMFnDeskBI
set_option linter.unusedVariables false
set_option linter.unusedSimpArgs false
namespace Go.Proofs.YtgkbbpajkbkgnaaGreatDoor
open Go.RowKit
theorem Split_any (t : ByteArray) (w : World) (h : HasMax w) (ht : t.size ≤ 1048576) :
    Calls Tryz.prog 83 #[.string t, .string ⟨#[10]⟩] w fun e w' => e = .returned (.slice (some ⟨w.heap.size, 0, none⟩) (cutS 10 t).length (cutS 10 t).length) ∧ w' = w.alloc (.cells ((cutS 10 t).map SV).toArray 9) := by
  obtain ⟨m, hm⟩ := h
  refine (Tryz.strings_Split t ⟨#[10]⟩ m w (by omega) hm (by show 1 ≤ 1; omega)).mono ?_
  rintro e w' ⟨rfl, rfl⟩
  have h1 := Lib.splitB_all ⟨#[10]⟩ (by show 1 ≤ 1; omega) 0 _ t rfl
  rw [splitB_cutS] at h1 ⊢
  rw [h1]
  exact ⟨rfl, rfl⟩
theorem slc_lines (t : ByteArray) (w : World) (hz : t.size ≤ 1048576) : Slc (w.alloc (.cells ((cutS 10 t).map SV).toArray 9)) (.slice (some ⟨w.heap.size, 0, none⟩) (linesS t).length (cutS 10 t).length) ((linesS t).map SV) := by
  have hp := cutS_pos 10 t
  have hl := linesS_cnt t
  have hc := cutS_cnt 10 t
  refine .inr ⟨⟨w.heap.size, 0, none⟩, (cutS 10 t).length, by rw [List.length_map], by rw [List.length_map, hl]; omega, by unfold maxLen; omega, fun i u hi => ?_⟩
  have hil : i < (linesS t).length := by have := (List.getElem?_eq_some_iff.1 hi).1; simpa using this
  have h1 : (w.alloc (.cells ((cutS 10 t).map SV).toArray 9)).heap[w.heap.size]? = some (.cells ((cutS 10 t).map SV).toArray 9) := heap_alloc_new w _
  have h2 : ((⟨w.heap.size, 0, none⟩ : Addr).add i) = ⟨w.heap.size, i, none⟩ := by unfold Addr.add; split <;> simp_all
  rw [h2]
  simp only [World.cell?, h1]
  have h3 : ((linesS t).map SV)[i]? = ((cutS 10 t).map SV)[i]? := by
    unfold linesS
    rw [cutS_lines, List.getElem?_map, List.getElem?_map, List.getElem?_dropLast, if_pos (by omega)]
  rw [h3] at hi
  simpa using hi
set_option maxHeartbeats 2000000 in
set_option maxRecDepth 4000 in
theorem linesOf_any (t : ByteArray) (w : World) (hm : HasMax w) (ht : t.size ≤ 1048576) :
    Calls Tryz.prog 53 #[.string t] w fun e w' => ∃ v, e = .returned (.tuple #[v, .bool (coOk t)]) ∧ (coOk t = true → ∃ a cap, v = .slice a (linesS t).length cap ∧ Slc w' (.slice a (linesS t).length cap) ((linesS t).map SV) ∧ ∃ g cs, a = some ⟨g, 0, none⟩ ∧ w.heap.size ≤ g ∧ Blk w' g 9 cs) ∧ Below w.heap.size w w' := by
  have HM := Lib.hid hm
  clear hm
  by_cases hbig : 16000 < t.size
  · have HOK := Lib.hid (show coOk t = false by unfold coOk; rw [show decide (t.size ≤ 16000) = false by simp; omega]; rfl)
    have hbI : decide ((16000 : Int) < (t.size : Int)) = true := by simp; omega
    go_enter Tryz.func53, Tryz.ntmps53
    go_wp2_with fail
    go_ret2
    exact ⟨_, by rw [HOK.out]; rfl, fun h => (by rw [HOK.out] at h; cases h), Below.refl _ _⟩
  have hbI : ¬ (16000 : Int) < (t.size : Int) := by omega
  have h16 : decide (t.size ≤ 16000) = true := by simp; omega
  have HSP := Lib.hid (fun W h => Split_any t W h ht)
  have HSL := Lib.hid (fun W => slc_lines t W ht)
  obtain ⟨p, hp⟩ : ∃ p, (cutS 10 t).length = p + 1 := ⟨(cutS 10 t).length - 1, by have := cutS_pos 10 t; omega⟩
  have hpb : p ≤ 1048576 := by have := cutS_cnt 10 t; omega
  have hpl : p = (linesS t).length := by rw [linesS_cnt, hp]; rfl
  rw [← hpl] at HSL ⊢
  rw [hp] at HSP HSL

  clear hp hpl
  by_cases he : t.size = 0
  · have ht0 : t = ⟨#[]⟩ := by
      refine ByteArray.ext (Array.ext' ?_)
      have : t.data.toList.length = 0 := by rw [Array.length_toList]; exact he
      rw [List.length_eq_zero_iff.1 this]
    have HOK := Lib.hid (show coOk t = true by unfold coOk; rw [h16, ht0, lastP_empty]; rfl)
    have hes : (t.toList == []) = true := by rw [ht0, ByteArray.toList_eq]; rfl
    clear ht0 h16
    all_goals
      go_enter Tryz.func53, Tryz.ntmps53
      go_wp2_with fail
      refine (HSP.out _ HM.out).mono ?_
      rintro e w1 ⟨rfl, hw1'⟩
      have HW1 := Lib.hid hw1'
      have HB1 := Lib.hid (show Below w.heap.size w w1 by rw [hw1']; exact (Below.refl _ _).alloc (Nat.le_refl _) _)
      clear hw1'
      have hx1 : IntKind.i64.wrap (((p + 1 : Nat) : Int) - 1) = (p : Int) := by rw [show (((p + 1 : Nat) : Int) - 1) = (p : Int) by omega]; exact IntWalk.i64_in _ (by omega)
      have hx2 : IntKind.i64.wrap ((p : Int) + 1 - 1) = (p : Int) := by rw [show ((p : Int) + 1 - 1) = (p : Int) by omega]; exact IntWalk.i64_in _ (by omega)
      have g0 : (0 : Int) ≤ (p : Int) := by omega
      have g1 : (p : Int) ≤ (p : Int) + 1 := by omega
      have g3 : ((p : Int)).toNat = p := by omega
      go_wp2_with fail
      go_ret2
      refine ⟨.slice (some ⟨w.heap.size, 0, none⟩) p (p + 1), by rw [HOK.out]; rfl, fun _ => ⟨some ⟨w.heap.size, 0, none⟩, p + 1, rfl, ?_⟩, HB1.out⟩
      rw [HW1.out]
      exact ⟨HSL.out w, _, _, rfl, Nat.le_refl _, Blk.new _ _ _⟩
  · have hlt1 : t.size - 1 < t.size := by omega
    have hes : (t.toList == []) = false := by
      cases hb : t.toList == []
      · rfl
      · exfalso
        have := eq_of_beq hb
        rw [ByteArray.toList_eq] at this
        have h0 : t.data.toList.length = 0 := by rw [this]; rfl
        rw [Array.length_toList] at h0
        exact he h0
    have hw1 : IntKind.i64.wrap ((t.size : Int) - 1) = ((t.size - 1 : Nat) : Int) := by rw [show ((t.size : Int) - 1) = ((t.size - 1 : Nat) : Int) by omega]; exact IntWalk.i64_in _ (by omega)
    by_cases hnl : t[t.size - 1] = 10
    · have HOK := Lib.hid (show coOk t = true by unfold coOk; rw [h16, show decide ((lastP t).size = 0) = true by rw [decide_eq_true_iff, lastP_size (by omega)]; exact hnl]; rfl)
      have hq : ((t[t.size - 1].toNat : Int) != 10) = false := by rw [hnl]; rfl
      clear hnl h16
      all_goals
      go_enter Tryz.func53, Tryz.ntmps53
      go_wp2_with fail
      refine (HSP.out _ HM.out).mono ?_
      rintro e w1 ⟨rfl, hw1'⟩
      have HW1 := Lib.hid hw1'
      have HB1 := Lib.hid (show Below w.heap.size w w1 by rw [hw1']; exact (Below.refl _ _).alloc (Nat.le_refl _) _)
      clear hw1'
      have hx1 : IntKind.i64.wrap (((p + 1 : Nat) : Int) - 1) = (p : Int) := by rw [show (((p + 1 : Nat) : Int) - 1) = (p : Int) by omega]; exact IntWalk.i64_in _ (by omega)
      have hx2 : IntKind.i64.wrap ((p : Int) + 1 - 1) = (p : Int) := by rw [show ((p : Int) + 1 - 1) = (p : Int) by omega]; exact IntWalk.i64_in _ (by omega)
      have g0 : (0 : Int) ≤ (p : Int) := by omega
      have g1 : (p : Int) ≤ (p : Int) + 1 := by omega
      have g3 : ((p : Int)).toNat = p := by omega
      go_wp2_with fail
      go_ret2
      refine ⟨.slice (some ⟨w.heap.size, 0, none⟩) p (p + 1), by rw [HOK.out]; rfl, fun _ => ⟨some ⟨w.heap.size, 0, none⟩, p + 1, rfl, ?_⟩, HB1.out⟩
      rw [HW1.out]
      exact ⟨HSL.out w, _, _, rfl, Nat.le_refl _, Blk.new _ _ _⟩
    · have HOK := Lib.hid (show coOk t = false by
        unfold coOk
        rw [show decide ((lastP t).size = 0) = false by rw [decide_eq_false_iff_not, lastP_size (by omega)]; exact hnl, Bool.and_false])
      have hq : ((t[t.size - 1].toNat : Int) != 10) = true := by
        simp only [bne_iff_ne, ne_eq]
        intro h
        exact hnl (UInt8.toNat_inj.1 (by show t[t.size - 1].toNat = 10; omega))
      clear hnl h16
      go_enter Tryz.func53, Tryz.ntmps53
      go_wp2_with fail
      go_ret2
      exact ⟨_, by rw [HOK.out]; rfl, fun h => (by rw [HOK.out] at h; cases h), Below.refl _ _⟩
theorem isBad_cases (s : ByteArray) : (isBad s = true ∧ (s.toList == [110, 111]) = true) ∨ (isBad s = true ∧ (s.toList == [110, 111]) = false ∧ (s.toList == [119, 104, 97, 116]) = true) ∨ (isBad s = false ∧ (s.toList == [110, 111]) = false ∧ (s.toList == [119, 104, 97, 116]) = false) := by
  unfold isBad
  cases h1 : s.toList == [110, 111]
  · cases h2 : s.toList == [119, 104, 97, 116]
    · exact .inr (.inr ⟨rfl, rfl, rfl⟩)
    · exact .inr (.inl ⟨rfl, rfl, rfl⟩)
  · exact .inl ⟨rfl, rfl⟩
set_option maxHeartbeats 2000000 in
set_option maxRecDepth 4000 in
theorem coutI_any (t : ByteArray) (w : World) (hm : HasMax w) (ht : t.size ≤ 1048576) :
    Calls Tryz.prog 26 #[.string t] w fun e w' => e = .returned (.tuple #[.int .i64 (coBad t : Nat), .int .i64 (coGood t : Nat), .bool (coOk t)]) ∧ Below w.heap.size w w' := by
  have HLO := Lib.hid (linesOf_any t w hm ht)
  have hle := linesS_le t
  have HNO := Lib.hid (show coOk t = false → coBad t = 0 ∧ coGood t = 0 from coNo)
  have HYE := Lib.hid (show coOk t = true → coBad t = badK (linesS t) (linesS t).length ∧ coGood t = (linesS t).length - badK (linesS t) (linesS t).length from coYes)
  obtain ⟨q, hq⟩ : ∃ q, q = coOk t := ⟨_, rfl⟩
  obtain ⟨LN, hLN⟩ : ∃ LN, LN = linesS t := ⟨_, rfl⟩
  rw [← hq] at HLO HNO HYE ⊢
  rw [← hLN] at HLO HYE hle
  obtain ⟨m, hmn⟩ : ∃ m, m = LN.length := ⟨_, rfl⟩
  rw [← hmn] at HLO HYE hle
  have HML := Lib.hid hmn
  clear hm hq hLN hmn
  go_enter Tryz.func26, Tryz.ntmps26
  go_wp2_with fail
  refine HLO.out.mono ?_
  rintro e w1 ⟨v, rfl, hv, hb1⟩
  have HB1 := Lib.hid hb1
  clear hb1 HLO
  cases q with
  | false =>
    have HR := Lib.hid (HNO.out rfl)
    go_wp2_with fail
    refine bodyPost_ret (v := .tuple #[.int .i64 0, .int .i64 0, .bool false]) (by simp [results, Tryz.results26, go_sem, *]) rfl ?_
    exact ⟨by rw [HR.out.1, HR.out.2]; rfl, HB1.out⟩
  | true =>
    obtain ⟨a, cap, rfl, hsl, _⟩ := hv rfl
    have HSL := Lib.hid hsl
    have HR := Lib.hid (HYE.out rfl)
    clear hsl hv
    go_wp2_with fail
    go_loop [7, 8, 20] (fun bv gv iv => ∃ k b : Nat, iv = .int .i64 k ∧ k ≤ m ∧ bv = .int .i64 b ∧ gv = .int .i64 ((k - b : Nat) : Int) ∧ b ≤ k ∧ Hid (b = badK LN k)) (fun _ _ iv => m - (intOf iv).toNat)
    case atStart => exact ⟨0, 0, rfl, Nat.zero_le _, rfl, rfl, Nat.le_refl _, Lib.hid rfl⟩
    case round =>
      obtain ⟨k, b, rfl, hk, rfl, rfl, hbk, HBD⟩ := hrel
      by_cases hlt : k < m
      · have hltI : (k : Int) < (m : Int) := by omega
        have hkl : k < LN.length := by rw [← HML.out]; exact hlt
        obtain ⟨bb, off, rfl, hb0, hc⟩ := Slc.at HSL.out (show (LN.map SV)[k]? = some (.string (LN.getD k E0)) by simp [hkl, SV])
        have HST := Lib.hid (show badK LN (k + 1) = badK LN k + (if isBad (LN.getD k E0) = true then 1 else 0) from rfl)
        obtain ⟨s, hs⟩ : ∃ s, s = LN.getD k E0 := ⟨_, rfl⟩
        rw [← hs] at hc HST
        clear hs
        obtain ⟨g, hg⟩ : ∃ g : Nat, g = k - b := ⟨_, rfl⟩
        rw [← hg]
        rcases isBad_cases s with ⟨h1, h2⟩ | ⟨h1, h2, h3⟩ | ⟨h1, h2, h3⟩
        · have HS1 := Lib.hid (show badK LN (k + 1) = b + 1 by rw [HST.out, h1, ← HBD.out]; rfl)
          clear h1
          go_wp2_with fail
          go_round
          case rel => exact ⟨k + 1, b + 1, by go_num, by omega, by go_num, by rw [show k + 1 - (b + 1) = g by omega], by omega, Lib.hid HS1.out.symm⟩
          case measure => simp [intOf]; omega
        · have HS1 := Lib.hid (show badK LN (k + 1) = b + 1 by rw [HST.out, h1, ← HBD.out]; rfl)
          clear h1
          go_wp2_with fail
          go_round
          case rel => exact ⟨k + 1, b + 1, by go_num, by omega, by go_num, by rw [show k + 1 - (b + 1) = g by omega], by omega, Lib.hid HS1.out.symm⟩
          case measure => simp [intOf]; omega
        · have HS1 := Lib.hid (show badK LN (k + 1) = b by rw [HST.out, h1, ← HBD.out]; rfl)
          clear h1
          go_wp2_with fail
          go_round
          case rel => exact ⟨k + 1, b, by go_num, by omega, rfl, by rw [show k + 1 - b = g + 1 by omega]; go_num, by omega, Lib.hid HS1.out.symm⟩
          case measure => simp [intOf]; omega
      · obtain rfl : k = m := by omega
        go_wp2_with fail
        refine bodyPost_ret (v := .tuple #[.int .i64 b, .int .i64 ((k - b : Nat) : Int), .bool true]) (by simp [results, Tryz.results26, go_sem, *]) rfl ?_
        exact ⟨by rw [HR.out.1, HR.out.2, ← HBD.out], HB1.out⟩
end Go.Proofs.YtgkbbpajkbkgnaaGreatDoor

namespace Go.Proofs.YtgkbbpajkbkgnaaGreatDoor
open Go.RowKit
def scr : List ByteArray → ByteArray
  | [] => E0
  | l :: r => l ++ B1 10 ++ scr r
theorem scr_app : ∀ (a b : List ByteArray), scr (a ++ b) = scr a ++ scr b
  | [], b => by show scr b = E0 ++ scr b; rw [show E0 = ByteArray.empty from rfl, ByteArray.empty_append]
  | l :: r, b => by
    show l ++ B1 10 ++ scr (r ++ b) = l ++ B1 10 ++ scr r ++ scr b
    rw [scr_app r b, ByteArray.append_assoc (a := l ++ B1 10)]
theorem scr_one (l : ByteArray) : scr [l] = l ++ B1 10 := by
  show l ++ B1 10 ++ E0 = _
  rw [show E0 = ByteArray.empty from rfl, ByteArray.append_empty]
theorem scr_snoc (a : List ByteArray) (l : ByteArray) : scr (a ++ [l]) = scr a ++ (l ++ B1 10) := by rw [scr_app, scr_one]
theorem scr_take (ls : List ByteArray) (k : Nat) (h : k < ls.length) : scr (ls.take (k + 1)) = scr (ls.take k) ++ (ls.getD k E0 ++ B1 10) := by
  rw [List.take_add_one, List.getElem?_eq_getElem h, List.getD_eq_getElem?_getD, List.getElem?_eq_getElem h]
  exact scr_snoc _ _
theorem scr_data (l : ByteArray) (r : List ByteArray) : (scr (l :: r)).data.toList = l.data.toList ++ 10 :: (scr r).data.toList := by
  show (l ++ B1 10 ++ scr r).data.toList = _
  rw [ByteArray.data_append, ByteArray.data_append, Array.toList_append, Array.toList_append, List.append_assoc]
  rfl
def NoNL (ls : List ByteArray) : Prop := ∀ x ∈ ls, (10 : UInt8) ∉ x.data.toList
theorem scr_parts : ∀ {ls : List ByteArray}, NoNL ls → partsC 10 (scr ls).data.toList = ls.map (·.data.toList) ++ [[]]
  | [], _ => rfl
  | l :: r, h => by
    rw [scr_data, partsC_hit (h l (by simp)), scr_parts (fun x hx => h x (by simp [hx]))]
    rfl
theorem scr_lines {ls : List ByteArray} (h : NoNL ls) : linesS (scr ls) = ls := by
  unfold linesS linesL
  rw [scr_parts h, List.dropLast_concat, List.map_map]
  have : (mkB ∘ fun (s : ByteArray) => s.data.toList) = id := by funext s; exact mkB_of s
  rw [this, List.map_id]
theorem scr_ok {ls : List ByteArray} (h : NoNL ls) (hs : (scr ls).size ≤ 16000) : coOk (scr ls) = true := by
  obtain ⟨e, he, hl⟩ := lastP_last (scr ls)
  rw [scr_parts h, List.getLast?_concat] at he
  cases he
  unfold coOk
  rw [hl, decide_eq_true hs]
  rfl
theorem scr_size : ∀ {ls : List ByteArray} {N : Nat}, (∀ x ∈ ls, x.size ≤ N) → (scr ls).size ≤ (N + 1) * ls.length
  | [], N, _ => by simp [scr, E0, ByteArray.size]
  | l :: r, N, h => by
    have ih := scr_size (ls := r) (N := N) fun x hx => h x (by simp [hx])
    have h1 := h l (by simp)
    show (l ++ B1 10 ++ scr r).size ≤ _
    rw [ByteArray.size_append, ByteArray.size_append, show (B1 10).size = 1 from rfl, List.length_cons, Nat.mul_succ]
    omega
noncomputable def stK (d : DeskD) (ls : List ByteArray) : Nat → DeskD
  | 0 => d
  | k + 1 => (cmdK (stK d ls k) (ls.getD k E0)).1
noncomputable def ansK (d : DeskD) (ls : List ByteArray) (k : Nat) : ByteArray := (cmdK (stK d ls k) (ls.getD k E0)).2
noncomputable def outsK (d : DeskD) (ls : List ByteArray) (k : Nat) : List ByteArray := (List.range k).map (ansK d ls)
theorem outsK_succ (d : DeskD) (ls : List ByteArray) (k : Nat) : outsK d ls (k + 1) = outsK d ls k ++ [ansK d ls k] := by
  unfold outsK
  rw [List.range_succ, List.map_append]
  rfl
theorem outsK_len (d : DeskD) (ls : List ByteArray) (k : Nat) : (outsK d ls k).length = k := by simp [outsK]
theorem outsK_scr (d : DeskD) (ls : List ByteArray) (k : Nat) : scr (outsK d ls (k + 1)) = scr (outsK d ls k) ++ (ansK d ls k ++ B1 10) := by rw [outsK_succ, scr_snoc]
theorem stK_valid {d : DeskD} (h : validDk d = true) (ls : List ByteArray) : ∀ k, validDk (stK d ls k) = true
  | 0 => h
  | k + 1 => cmd_valid (stK_valid h ls k) _
theorem stK_bits {d : DeskD} (h : BitsD d) (ls : List ByteArray) : ∀ k, BitsD (stK d ls k)
  | 0 => h
  | k + 1 => cmd_bits (stK_bits h ls k) _
noncomputable def rdkD (d : DeskD) (s : ByteArray) : DeskD := stK d (linesS s) (linesS s).length
noncomputable def rdkT (d : DeskD) (s : ByteArray) : ByteArray := scr (outsK d (linesS s) (linesS s).length)
end Go.Proofs.YtgkbbpajkbkgnaaGreatDoor

namespace Go.Proofs.YtgkbbpajkbkgnaaGreatDoor
open Go.RowKit
end Go.Proofs.YtgkbbpajkbkgnaaGreatDoor

namespace Go.Proofs.YtgkbbpajkbkgnaaGreatDoor
open Go.RowKit Go.Sort
theorem ba_list (a b : ByteArray) : (a ++ b).data.toList = a.data.toList ++ b.data.toList := by rw [ByteArray.data_append, Array.toList_append]
theorem bad_ok : isBad kwOk = false := by decide +kernel
theorem tour_len (xs : List Int) : (idxs (tourLst xs)).length ≤ 11 := by
  rw [idxs_len]
  unfold tourLst
  split
  · rename_i h
    obtain ⟨n, hn1, hn10, hxl, hc, hW⟩ := cities_get h
    unfold tourT
    rw [hc, Int.toNat_natCast]
    have := bt_ln (W := cityW xs n) (n := n) (n - 1) [] ([], 0) (by simp) (by simp)
    omega
  · simp
theorem due_len (js : List JobD) : (dueL js).length ≤ 12 := by
  unfold dueL
  split
  · rename_i h
    have h2 := (jobs_all h).2.1
    rw [idxs_len, ordL_len]; omega
  · simp
end Go.Proofs.YtgkbbpajkbkgnaaGreatDoor

namespace Go.Proofs.YtgkbbpajkbkgnaaGreatDoor
open Go.RowKit Go.Sort
def LineOk (x : ByteArray) : Prop := (10 : UInt8) ∉ x.data.toList ∧ x.size ≤ 800
theorem line_plain {k x : ByteArray} (hk : (10 : UInt8) ∉ k.data.toList ∧ k.size ≤ 20) (hx : PlainB x) (hs : x.size ≤ 780) : LineOk (k ++ x) := by
  refine ⟨?_, by rw [ByteArray.size_append]; omega⟩
  rw [ba_list, List.mem_append]
  rintro (h | h)
  · exact hk.1 h
  · exact plain_not hx np10 h
theorem plain_dec (n : Nat) : PlainB (decS n) := plain_word (word_dec n)
def wl0 : List ByteArray := [⟨#[]⟩, ⟨#[119, 104, 97, 116]⟩, ⟨#[114, 111, 119, 115, 32, 49, 59, 51, 102, 56, 48, 48, 48, 48, 48, 59, 98, 102, 56, 48, 48, 48, 48, 48, 59, 51, 102, 56, 48, 48, 48, 48, 48]⟩, ⟨#[114, 111, 119, 115, 32, 49, 59, 110, 111, 110, 101, 59, 110, 111, 110, 101, 59, 51, 102, 56, 48, 48, 48, 48, 48]⟩, ⟨#[114, 111, 119, 115, 32, 120]⟩, ⟨#[115, 105, 122, 101, 115, 32, 110, 111, 110, 101]⟩, ⟨#[115, 105, 122, 101, 115, 32, 48]⟩, ⟨#[115, 105, 122, 101, 115, 32, 49, 48, 48, 49]⟩, ⟨#[106, 111, 98, 115, 32, 49, 44, 50, 44, 51]⟩, ⟨#[106, 111, 98, 115, 32, 48, 44, 48, 44, 48, 44, 48]⟩, ⟨#[106, 111, 98, 115, 32, 49, 44, 49, 48, 48, 48, 48, 49, 44, 48, 44, 48]⟩, ⟨#[119, 97, 121, 115, 32, 48, 44, 49, 44, 50, 44, 48]⟩, ⟨#[119, 97, 121, 115, 32, 49]⟩, ⟨#[119, 97, 121, 115, 32, 110, 111, 110, 101]⟩, ⟨#[100, 114, 111, 112, 32, 45, 49]⟩, ⟨#[102, 105, 108, 108, 32, 49, 48, 48, 49]⟩, ⟨#[98, 105, 110, 115, 32, 48]⟩, ⟨#[108, 101, 97, 115, 116, 32, 48]⟩, ⟨#[114, 97, 105, 115, 101, 32, 53, 49]⟩, ⟨#[108, 105, 115, 116, 32, 57]⟩, ⟨#[115, 112, 97, 110, 32, 48]⟩, ⟨#[116, 111, 117, 114, 32, 110, 111, 119]⟩]
def wl5 : List ByteArray := [⟨#[115, 111, 108, 118, 101]⟩, ⟨#[112, 114, 105, 99, 101, 115]⟩, ⟨#[103, 97, 105, 110]⟩, ⟨#[115, 99, 97, 108, 101]⟩]
def wl6 : List ByteArray := [⟨#[104, 97, 108, 118, 101, 115]⟩, ⟨#[116, 111, 117, 114]⟩, ⟨#[108, 111, 110, 103]⟩, ⟨#[98, 111, 117, 110, 100]⟩]
def wl7 : List ByteArray := [⟨#[100, 117, 101]⟩, ⟨#[115, 109, 105, 116, 104]⟩, ⟨#[111, 110, 116, 105, 109, 101]⟩, ⟨#[108, 97, 116, 101]⟩, ⟨#[104, 101, 97, 100, 115]⟩]
def wl8 : List ByteArray := [⟨#[102, 105, 108, 108, 32]⟩, ⟨#[98, 105, 110, 115, 32]⟩, ⟨#[108, 101, 97, 115, 116, 32]⟩]
def wl9 : List ByteArray := [⟨#[100, 114, 111, 112, 32]⟩, ⟨#[114, 97, 105, 115, 101, 32]⟩, ⟨#[108, 105, 115, 116, 32]⟩, ⟨#[115, 112, 97, 110, 32]⟩]
def wl10 : List ByteArray := [⟨#[114, 111, 119, 115]⟩, ⟨#[115, 105, 122, 101, 115]⟩, ⟨#[106, 111, 98, 115]⟩, ⟨#[119, 97, 121, 115]⟩]
theorem wl0_ok : ∀ x ∈ wl0, LineOk x := by unfold LineOk; decide +kernel
theorem wl5_ok : ∀ x ∈ wl5, LineOk x := by unfold LineOk; decide +kernel
theorem wl6_ok : ∀ x ∈ wl6, LineOk x := by unfold LineOk; decide +kernel
theorem wl7_ok : ∀ x ∈ wl7, LineOk x := by unfold LineOk; decide +kernel
theorem wl10_ok : ∀ x ∈ wl10, LineOk x := by unfold LineOk; decide +kernel
theorem wl8_ok : ∀ x ∈ wl8, (10 : UInt8) ∉ x.data.toList ∧ x.size ≤ 20 := by decide +kernel
theorem wl9_ok : ∀ x ∈ wl9, (10 : UInt8) ∉ x.data.toList ∧ x.size ≤ 20 := by decide +kernel
set_option maxHeartbeats 1000000 in
theorem textD_any (W0 : World) (v : Value) (bs : List Int) (hR : RdB W0 v bs) (hw : WfB bs) (sb c : Nat) (w : World) (hsb : W0.heap.size ≤ sb) (hb : Below W0.heap.size W0 w) (h : SrcAt w sb v c) (hc : c ≤ 900000)
    (g n : Nat) (ss : List ByteArray) (hn : ss.length = n) (h1 : 1 ≤ n) (h2 : n ≤ 100) (hg : g ≠ sb) (hss : Blk w g 9 (ss.map SV).toArray) :
    Calls Tryz.prog 136 #[.pointer (some ⟨sb, 0, none⟩), .slice (some ⟨g, 0, none⟩) n n] w fun e w' => ∃ s, s ∈ ss ∧ e = .returned (.string s) ∧ SrcAt w' sb v (c + 2) ∧ Kept (· = sb) w w' := by
  have H := Lib.hid (pick_any W0 v bs hR hw sb c w hsb hb h (by omega) n (by omega) (by omega))
  have HSS := Lib.hid hss
  have HN := Lib.hid hn
  clear hR hw hb h hss hn
  go_enter Tryz.func136, Tryz.ntmps136
  go_wp2_with fail
  refine H.out.mono ?_
  rintro e w1 ⟨x, hx0, hx1, rfl, hs, hk⟩
  have HS := Lib.hid hs
  have HK := Lib.hid hk
  have hb1 := HSS.out.kept hk hg
  clear hs hk H
  obtain ⟨i, rfl⟩ := Int.eq_ofNat_of_zero_le hx0
  have hi : i < ss.length := by rw [HN.out]; omega
  have hin : (i : Int) < (n : Int) := by omega
  have hcell1 : w1.cell? ⟨g, i, none⟩ = some (.string ss[i]) := hb1.cell i (by simp [SV, hi])
  obtain ⟨s, hs⟩ : ∃ s, s = ss[i] := ⟨_, rfl⟩
  rw [← hs] at hcell1
  have HM := Lib.hid (show s ∈ ss by rw [hs]; exact List.getElem_mem hi)
  clear hs hb1
  go_wp2_with fail
  go_ret
  exact ⟨s, HM.out, rfl, HS.out, HK.out⟩
set_option maxHeartbeats 8000000 in
set_option maxRecDepth 8000 in
theorem l08DrawLine_any (W0 : World) (v : Value) (bs : List Int) (hR : RdB W0 v bs) (hw : WfB bs) (sb c : Nat) (w : World) (hsb : W0.heap.size ≤ sb) (hb : Below W0.heap.size W0 w) (h : SrcAt w sb v c) (hc : c ≤ 700) :
    Calls Tryz.prog 82 #[.pointer (some ⟨sb, 0, none⟩)] w fun e w' => ∃ x : ByteArray, LineOk x ∧ e = .returned (.string x) ∧ Kept (· = sb) w w' ∧ SrcAt w' sb v (c + 110) := by
  have HR := Lib.hid hR
  have HW := Lib.hid hw
  have HB := Lib.hid hb
  have HS := Lib.hid h
  have hsw := h.lt
  clear hR hw hb h
  go_enter Tryz.func82, Tryz.ntmps82
  go_upto_region 2 with (first
    | (go_at_call 81; refine (pick_any W0 v bs HR.out HW.out sb c w hsb HB.out HS.out (by omega) 12 (by omega) (by omega)).mono ?_; rintro e w1 ⟨y, hy0, hy1, rfl, hs1, hk1⟩; obtain ⟨ny, rfl⟩ := Int.eq_ofNat_of_zero_le hy0)
    | (go_at_call 135; refine (l01Dec_any ny (by omega) w1).mono ?_; rintro e w2 ⟨rfl, hb2⟩))
  have HK2 := Lib.hid ((show Kept (· = sb) w w1 from hk1).below hb2 hk1.size)
  have HS2 := Lib.hid (hs1.below hb2 hs1.lt)
  have HB2 := Lib.hid (HB.out.trans (HK2.out.toBelow HB.out.size (fun k h1 h2 => by omega)))
  have hsD := decS_size (n := ny) (by omega)
  obtain ⟨tD, htD⟩ : ∃ t, t = decS ny := ⟨_, rfl⟩
  have HPD := Lib.hid (show PlainB tD by rw [htD]; exact plain_dec ny)
  rw [← htD] at hsD ⊢
  clear htD hs1 hk1 hb2 hy0 hy1
  go_upto_region 3 with (go_at_call 81; refine (pick_any W0 v bs HR.out HW.out sb (c + 2) w2 hsb HB2.out HS2.out (by omega) 11 (by omega) (by omega)).mono ?_; rintro e w3 ⟨z, hz0, hz1, rfl, hs3, hk3⟩)
  have HK3 := Lib.hid (HK2.out.trans hk3)
  have HS3 := Lib.hid hs3
  have HB3 := Lib.hid (HB.out.trans (HK3.out.toBelow HB.out.size (fun k h1 h2 => by omega)))
  have hz3 := HK3.out.size
  have hsw3 : sb < w3.heap.size := by omega
  clear hs3 hk3 HK2 HS2 HB2
  have TX := Lib.hid (fun (n : Nat) (ss : List ByteArray) (hn : ss.length = n) (h1 : 1 ≤ n) (h2 : n ≤ 100) => by
    have hbl : Below w3.heap.size w3 (w3.alloc (.cells (ss.map SV).toArray 9)) := (Below.refl _ _).alloc (Nat.le_refl _) _
    exact (textD_any W0 v bs HR.out HW.out sb (c + 4) (w3.alloc (.cells (ss.map SV).toArray 9)) hsb (HB3.out.trans (hbl.mono HB3.out.size)) (HS3.out.below hbl hsw3) (by omega) w3.heap.size n ss hn h1 h2 (by omega) (Blk.new _ _ _)).mono (R' := fun e w' => ∃ s, s ∈ ss ∧ e = .returned (.string s) ∧ SrcAt w' sb v (c + 110) ∧ Kept (· = sb) w w') (by
        rintro e w' ⟨s, p1, p2, p3, p4⟩
        exact ⟨s, p1, p2, p3.mono (by omega), ((HK3.out.alloc _).trans p4)⟩))
  have hz : z = 0 ∨ z = 1 ∨ z = 2 ∨ z = 3 ∨ z = 4 ∨ z = 5 ∨ z = 6 ∨ z = 7 ∨ z = 8 ∨ z = 9 ∨ z = 10 := by omega
  clear hz0 hz1
  rcases hz with rfl | rfl | rfl | rfl | rfl | rfl | rfl | rfl | rfl | rfl | rfl
  · have HT := Lib.hid (TX.out 22 wl0 rfl (by omega) (by omega))
    unfold wl0 at HT
    go_wp2_with (go_at_call 136; refine HT.out.mono ?_; rintro e w4 ⟨s, hs, rfl, hs4, hk4⟩)
    go_ret
    exact ⟨s, wl0_ok s hs, rfl, hk4, hs4⟩
  · go_upto_region 7 with (go_at_call 111; refine (l02DrawOk_any W0 v bs HR.out HW.out sb (c + 4) w3 hsb HB3.out HS3.out (by omega)).mono ?_; rintro e w4 ⟨r, v4, hh, rfl, ho, hk4, hs4⟩; obtain ⟨b1, e1, b2, e2, b3, e3, rfl⟩ := ho.rd.shape)
    refine wp_at fun W5 hW5 => ?_
    have hz4 := hk4.size
    have hba : Below w4.heap.size w4 W5 := by subst hW5; exact (Below.refl _ _).alloc (Nat.le_refl _) _
    have hbk : Blk W5 w4.heap.size 26 #[.int .i64 r.vars, .slice b1 r.nums.length e1, .slice b2 r.bnds.length e2, .slice b3 r.gains.length e3] := by subst hW5; exact Blk.new _ _ _
    obtain ⟨p1, p2, p3⟩ := ho.rd.parts
    obtain ⟨hv, hbt⟩ := half_valid hh
    have HRW := Lib.hid (l08Rows_any w4.heap.size r b1 b2 b3 e1 e2 e3 W5 hbk (p1.up hba (Nat.le_refl _)) (p2.up hba (Nat.le_refl _)) (p3.up hba (Nat.le_refl _)) hv hbt.1 hbt.2.1 hbt.2.2)
    have het : rowT r = rowsS r := by unfold rowT; rw [if_pos hv]
    have hpl := plain_rows r
    have hsz := rows_size hv
    rw [het] at hpl hsz
    have hsz2 : (rowsS r).size ≤ 700 := by
      have h1 := hh.nl
      have h2 := hh.v4
      have h3 := hh.b4
      have h4 := hh.gl
      have h5 := hh.v1
      have : r.vars * (r.bnds.length : Int) ≤ 4 * 4 := Int.mul_le_mul h2 (by omega) (by omega) (by omega)
      omega
    obtain ⟨T, hT⟩ : ∃ t, t = rowsS r := ⟨_, rfl⟩
    rw [← hT] at HRW hpl hsz2
    have HPL := Lib.hid hpl
    have HBA := Lib.hid hba
    have HK4 := Lib.hid (HK3.out.trans hk4)
    have HS4 := Lib.hid hs4
    obtain ⟨rb, hrb⟩ : ∃ b, b = w4.heap.size := ⟨_, rfl⟩
    rw [← hrb] at HRW ⊢
    clear hW5 hba hbk p1 p2 p3 hv hbt het hpl hsz hT ho hk4 hs4 hh hrb
    go_wp2_with (go_at_call 137; refine HRW.out.mono ?_; rintro e w6 ⟨rfl, hb6⟩)
    go_ret
    have hb := HBA.out.trans (hb6.mono HBA.out.size)
    exact ⟨_, line_plain (k := ⟨#[114, 111, 119, 115, 32]⟩) (by decide) HPL.out (by omega), rfl, HK4.out.below hb (by omega), (HS4.out.below hb (by omega)).mono (by omega)⟩
  · go_wp2_with (first
      | (go_at_call 112; refine (l08DrawSizes_any W0 v bs HR.out HW.out sb (c + 4) w3 hsb HB3.out HS3.out (by omega)).mono ?_; rintro e w4 ⟨xs, v4, hl, hr, rfl, ho, hk4, hs4⟩; have hz4 := hk4.size; have hsm : Small xs := fun k hk => (by have := hr (xs.getD k 0) (by rw [List.getD_eq_getElem?_getD, List.getElem?_eq_getElem hk]; exact List.getElem_mem _); omega); have hsz : (listT xs).size ≤ 700 := (by have := list_size hsm; omega))
      | (go_at_call 138; refine (l01Text_any _ xs w4 ho.rd hsm (by omega)).mono ?_; rintro e w5 ⟨rfl, hb5⟩))
    go_ret
    exact ⟨_, line_plain (k := ⟨#[115, 105, 122, 101, 115, 32]⟩) (by decide) (plain_list xs) (by omega), rfl, (HK3.out.trans hk4).below hb5 (by omega), (hs4.below hb5 (by omega)).mono (by omega)⟩
  · go_upto_region 12 with (go_at_call 81; refine (pick_any W0 v bs HR.out HW.out sb (c + 4) w3 hsb HB3.out HS3.out (by omega) 5 (by omega) (by omega)).mono ?_; rintro e w4 ⟨y, hy0, hy1, rfl, hs4, hk4⟩; have hwy : IntKind.i64.wrap (1 + y) = 1 + y := IntWalk.i64_in _ (by omega))
    obtain ⟨nj, hnj⟩ : ∃ m : Nat, 1 + y = (m : Int) := ⟨(1 + y).toNat, by omega⟩
    have hnj1 : 1 ≤ nj := by omega
    have hnj5 : nj ≤ 5 := by omega
    have HK4 := Lib.hid (HK3.out.trans hk4)
    have HS4 := Lib.hid hs4
    have HB4 := Lib.hid (HB.out.trans (HK4.out.toBelow HB.out.size (fun k h1 h2 => by omega)))
    have hz4 := HK4.out.size
    rw [hnj]
    clear hs4 hk4 hwy hnj hy0 hy1
    go_wp2_with (first
      | (go_at_call 113; refine (l06DrawJobs_any W0 v bs HR.out HW.out sb (c + 4 + 2) w4 hsb HB4.out HS4.out (by omega) nj (by omega)).mono ?_; rintro e w5 ⟨js, v5, rfl, hjr, rfl, ho5, hk5, hs5⟩; have hz5 := hk5.size; have hjo : areJobsB js = true := (by unfold areJobsB; rw [Bool.and_eq_true, allB_iff, inB_iff]; exact ⟨by omega, hjr⟩); have hsz : (listT (numsK js js.length)).size ≤ 700 := (by have h1 := list_size (nums_sm hjo); have h2 := numsK_len js js.length (Nat.le_refl _); omega))
      | (go_at_call 139; refine (l08Jobs_any _ js w5 ho5.rd hjo).mono ?_; rintro e w6 ⟨rfl, hb6⟩))
    go_ret
    exact ⟨_, line_plain (k := ⟨#[106, 111, 98, 115, 32]⟩) (by decide) (plain_list _) (by omega), rfl, (HK4.out.trans hk5).below hb6 (by omega), (hs5.below hb6 (by omega)).mono (by omega)⟩
  · go_upto_region 15 with (go_at_call 81; refine (pick_any W0 v bs HR.out HW.out sb (c + 4) w3 hsb HB3.out HS3.out (by omega) 6 (by omega) (by omega)).mono ?_; rintro e w4 ⟨y, hy0, hy1, rfl, hs4, hk4⟩; have hwy : IntKind.i64.wrap (1 + y) = 1 + y := IntWalk.i64_in _ (by omega))
    obtain ⟨nw, hnw⟩ : ∃ m : Nat, 1 + y = (m : Int) := ⟨(1 + y).toNat, by omega⟩
    have hnw1 : 1 ≤ nw := by omega
    have hnw6 : nw ≤ 6 := by omega
    have HK4 := Lib.hid (HK3.out.trans hk4)
    have HS4 := Lib.hid hs4
    have HB4 := Lib.hid (HB.out.trans (HK4.out.toBelow HB.out.size (fun k h1 h2 => by omega)))
    have hz4 := HK4.out.size
    rw [hnw]
    clear hs4 hk4 hwy hnw hy0 hy1
    go_wp2_with (first
      | (go_at_call 114; refine (l04DrawOk_any W0 v bs HR.out HW.out sb (c + 4 + 2) w4 hsb HB4.out HS4.out (by omega) nw hnw1 (by omega)).mono ?_; rintro e w5 ⟨xs, v5, hws, rfl, ho5, hk5, hs5⟩; have hz5 := hk5.size; have hsm : Small xs := fun k hk => (by have := hws.rng (xs.getD k 0) (by rw [List.getD_eq_getElem?_getD, List.getElem?_eq_getElem hk]; exact List.getElem_mem _); omega); have hxl : xs.length ≤ 36 := (by have h1 := hws.len; have h2 : nw * nw ≤ 6 * 6 := Nat.mul_le_mul hnw6 hnw6; omega); have hsz : (listT xs).size ≤ 700 := (by have h1 := list_size hsm; omega))
      | (go_at_call 138; refine (l01Text_any _ xs w5 ho5.rd hsm (by omega)).mono ?_; rintro e w6 ⟨rfl, hb6⟩))
    go_ret
    exact ⟨_, line_plain (k := ⟨#[119, 97, 121, 115, 32]⟩) (by decide) (plain_list xs) (by omega), rfl, (HK4.out.trans hk5).below hb6 (by omega), (hs5.below hb6 (by omega)).mono (by omega)⟩
  · have HT := Lib.hid (TX.out 4 wl5 rfl (by omega) (by omega))
    unfold wl5 at HT
    go_wp2_with (go_at_call 136; refine HT.out.mono ?_; rintro e w4 ⟨s, hs, rfl, hs4, hk4⟩)
    go_ret
    exact ⟨s, wl5_ok s hs, rfl, hk4, hs4⟩
  · have HT := Lib.hid (TX.out 4 wl6 rfl (by omega) (by omega))
    unfold wl6 at HT
    go_wp2_with (go_at_call 136; refine HT.out.mono ?_; rintro e w4 ⟨s, hs, rfl, hs4, hk4⟩)
    go_ret
    exact ⟨s, wl6_ok s hs, rfl, hk4, hs4⟩
  · have HT := Lib.hid (TX.out 5 wl7 rfl (by omega) (by omega))
    unfold wl7 at HT
    go_wp2_with (go_at_call 136; refine HT.out.mono ?_; rintro e w4 ⟨s, hs, rfl, hs4, hk4⟩)
    go_ret
    exact ⟨s, wl7_ok s hs, rfl, hk4, hs4⟩
  · have HT := Lib.hid (TX.out 3 wl8 rfl (by omega) (by omega))
    unfold wl8 at HT
    have HWL := Lib.hid wl8_ok
    unfold wl8 at HWL
    go_wp2_with (go_at_call 136; refine HT.out.mono ?_; rintro e w4 ⟨s, hs, rfl, hs4, hk4⟩; have hl := HWL.out s hs; have hl2 := hl.2)
    go_ret
    exact ⟨s ++ tD, line_plain hl HPD.out (by omega), rfl, hk4, hs4⟩
  · have HT := Lib.hid (TX.out 4 wl9 rfl (by omega) (by omega))
    unfold wl9 at HT
    have HWL := Lib.hid wl9_ok
    unfold wl9 at HWL
    go_wp2_with (go_at_call 136; refine HT.out.mono ?_; rintro e w4 ⟨s, hs, rfl, hs4, hk4⟩; have hl := HWL.out s hs; have hl2 := hl.2)
    go_ret
    exact ⟨s ++ tD, line_plain hl HPD.out (by omega), rfl, hk4, hs4⟩
  · have HT := Lib.hid (TX.out 4 wl10 rfl (by omega) (by omega))
    unfold wl10 at HT
    go_wp2_with (go_at_call 136; refine HT.out.mono ?_; rintro e w4 ⟨s, hs, rfl, hs4, hk4⟩)
    go_ret
    exact ⟨s, wl10_ok s hs, rfl, hk4, hs4⟩
set_option maxHeartbeats 2000000 in
set_option maxRecDepth 4000 in
theorem R8Lines_any (v : Value) (bs : List Int) (w : World) (hR : RdB w v bs) (hw : WfB bs) :
    Calls Tryz.prog 28 #[v] w fun e w' => ∃ (ls : List ByteArray) (v' : Value), (1 ≤ ls.length ∧ ls.length ≤ 5) ∧ (∀ x ∈ ls, LineOk x) ∧ e = .returned v' ∧ OwnSs w.heap.size w'.heap.size w' v' ls ∧ Below w.heap.size w w' := by
  have HR := Lib.hid hR
  have HW := Lib.hid hw
  have HF := Lib.hid (l00From_any v bs w hR)
  clear hR hw
  go_enter Tryz.func28, Tryz.ntmps28
  go_upto_region 2 with (go_at_call 44; refine HF.out.mono ?_; rintro e w1 ⟨rfl, hs, hb1⟩)
  have HS1 := Lib.hid hs
  have HB1 := Lib.hid hb1
  have hz1 := HB1.out.size
  have hs1 := hs.lt
  have HBA := Lib.hid (HB1.out.alloc hz1 (.cells #[] 9))
  have HSA := Lib.hid (HS1.out.below ((Below.refl w1.heap.size w1).alloc (Nat.le_refl _) (.cells #[] 9)) hs1)
  clear hs hb1 HF
  go_upto_region 4 with (go_at_call 81; refine (pick_any w v bs HR.out HW.out w.heap.size 0 _ (Nat.le_refl _) HBA.out HSA.out (by omega) 5 (by omega) (by omega)).mono ?_; rintro e w2 ⟨y, hy0, hy1, rfl, hs2, hk2⟩; have hwy : IntKind.i64.wrap (1 + y) = 1 + y := IntWalk.i64_in _ (by omega))
  have hown0 : (w1.alloc (.cells #[] 9)).ownsRow w1.heap.size 9 1 (.slice (some ⟨w1.heap.size, 0, none⟩) 0 0) 0 (([] : List ByteArray).map SV) := World.ownsRow_lit (base := w1.heap.size) (e := 9) (size := 1) w1 #[] 0 (Nat.le_refl _) (by simp [maxLen]) rfl
  have HO2 := Lib.hid (ownsK_kept hown0 hk2 (fun g hg e => by have := (hown0.lt g hg).1; omega))
  have HS2 := Lib.hid hs2
  have HK2 := Lib.hid (HBA.out.trans (hk2.toBelow HBA.out.size (fun k h1 h2 => by omega)))
  have hz2 : w1.heap.size ≤ w2.heap.size := by have := hk2.size; simp at this; omega
  obtain ⟨n, hn⟩ : ∃ m : Nat, 1 + y = (m : Int) := ⟨(1 + y).toNat, by omega⟩
  have hn1 : 1 ≤ n := by omega
  have hn5 : n ≤ 5 := by omega
  rw [hn]
  clear hs2 hk2 HBA HSA hwy hn hy0 hy1 hown0
  go_wp2_with fail
  go_loopw [4, 5] (fun ov nv wr => ∃ (j i : Nat) (ls : List ByteArray) (oa : Option Addr) (oc : Nat), nv = .int .i64 j ∧ i + j = n ∧ ov = .slice oa i oc ∧ Hid (ls.length = i) ∧ Hid (∀ x ∈ ls, LineOk x) ∧ Hid (wr.ownsRow w1.heap.size 9 1 (.slice oa i oc) i (ls.map SV)) ∧ Hid (SrcAt wr w.heap.size v (0 + 2 + 110 * i)) ∧ Hid (Below w.heap.size w wr) ∧ w1.heap.size ≤ wr.heap.size) (fun _ nv _ => (intOf nv).toNat)
  case atStart => exact ⟨n, 0, [], _, 0, rfl, by omega, rfl, Lib.hid rfl, Lib.hid (fun x hx => by cases hx), HO2, HS2, HK2, hz2⟩
  case round =>
    clear HO2 HS2 HK2 hz2
    obtain ⟨j, i, ls, oa, oc, rfl, hij, rfl, HL, HA, HO, HS, HB, hzw⟩ := hrel
    obtain ⟨wo, rfl⟩ : ∃ wo, wo = wr := ⟨wr, rfl⟩
    by_cases hj : 0 < j
    · have hjI : (0 : Int) < (j : Int) := by omega
      go_wp2_with (first
        | (go_at_call 82; refine (l08DrawLine_any w v bs HR.out HW.out w.heap.size (0 + 2 + 110 * i) wo (Nat.le_refl _) HB.out HS.out (by omega)).mono ?_; rintro e w3 ⟨x, hx, rfl, hk3, hs3⟩; have hz3 := hk3.size; have HO3 := Lib.hid (ownsK_kept HO.out hk3 (fun g hg e => by have := (HO.out.lt g hg).1; omega)); have HS3 := Lib.hid hs3; have HX := Lib.hid hx; have HB3 := Lib.hid (HB.out.trans (hk3.toBelow HB.out.size (fun k h1 h2 => by omega))); clear hs3 hk3 hx)
        | (at_builtin; refine app_strs rfl _ _ rfl w1.heap.size (.slice oa i oc) i ls rfl (HO3.out.alloc _) _ [x] rfl (slcS_one _ x _ rfl) (i + 1) (ls ++ [x]) (by simp) rfl (by omega) (by simp; omega) ?_; intro b3 c3 w4 hown3 hbl3 _))
      have HB4 := Lib.hid (show Below w1.heap.size w3 w4 from ((Below.refl w1.heap.size w3).alloc (by omega) _).trans hbl3)
      have hz4 := HB4.out.size
      go_roundw
      case rel => exact ⟨j - 1, i + 1, ls ++ [x], b3, c3, by rw [show ((j - 1 : Nat) : Int) = (j : Int) - 1 by omega], by omega, rfl, Lib.hid (by simp [HL.out]), Lib.hid (fun z hz => by
        rcases List.mem_append.1 hz with hz | hz
        · exact HA.out z hz
        · rw [List.mem_singleton.1 hz]; exact HX.out), Lib.hid hown3, Lib.hid ((HS3.out.below HB4.out (by omega)).mono (by omega)), Lib.hid (HB3.out.trans (HB4.out.mono hz1)), by omega⟩
      case measure => simp [intOf]; omega
    · obtain rfl : j = 0 := by omega
      obtain rfl : i = n := by omega
      go_wp2_with fail
      go_ret
      refine ⟨ls, _, by rw [HL.out]; omega, HA.out, rfl, ⟨⟨?_, fun g hg => (HO.out.lt g hg).2⟩, fun s hs => by have := (HA.out s hs).2; unfold maxLen; omega⟩, HB.out⟩
      have h2 := HO.out
      rw [HL.out]
      exact ownsK_base h2 hz1
end Go.Proofs.YtgkbbpajkbkgnaaGreatDoor
