/-
  FnTop: texts joined: CoutI, ScrM, DkRun, NewDesk.
-/
import Derived.Deep.RegionHeld3
import Derived.Lib.OthersKept
import Derived.Lib.FrozenHead
import Derived.Test.YtgkbbpajkbkgnaaGreatDoorMFnTopAK
import Derived.Test.YtgkbbpajkbkgnaaGreatDoorMFnTopAM
import Derived.Test.YtgkbbpajkbkgnaaGreatDoorMFnTopBG
import Derived.Test.YtgkbbpajkbkgnaaGreatDoorMFnTopBH
set_option linter.unusedVariables false
set_option linter.unusedSimpArgs false
namespace Go.Proofs.YtgkbbpajkbkgnaaGreatDoor
open Go.RowKit
theorem Split_any (t : ByteArray) (w : World) (h : HasMax w) (ht : t.size ≤ 1048576) :
    Calls Tryz.prog 83 #[.string t, .string ⟨#[10]⟩] w fun e w' => e = .returned (.slice (some ⟨w.heap.size, 0, none⟩) (cutS 10 t).length (cutS 10 t).length) ∧ w' = w.alloc (.cells ((cutS 10 t).map SV).toArray 9) := by
  obtain ⟨m, hm⟩ := h
  refine (Tryz.strings_Split t ⟨#[10]⟩ m w (by omega) hm (by show 1 ≤ 1; omega)).mono ?_
  rintro e w' ⟨rfl, rfl⟩
  have h1 := Lib.splitB_all ⟨#[10]⟩ (by show 1 ≤ 1; omega) 0 _ t rfl
  rw [splitB_cutS] at h1 ⊢
  rw [h1]
  exact ⟨rfl, rfl⟩
/-- The row that a text is cut into, without its last part. -/
theorem slc_lines (t : ByteArray) (w : World) (hz : t.size ≤ 1048576) : Slc (w.alloc (.cells ((cutS 10 t).map SV).toArray 9)) (.slice (some ⟨w.heap.size, 0, none⟩) (linesS t).length (cutS 10 t).length) ((linesS t).map SV) := by
  have hp := cutS_pos 10 t
  have hl := linesS_cnt t
  have hc := cutS_cnt 10 t
  refine .inr ⟨⟨w.heap.size, 0, none⟩, (cutS 10 t).length, by rw [List.length_map], by rw [List.length_map, hl]; omega, by unfold maxLen; omega, fun i u hi => ?_⟩
  have hil : i < (linesS t).length := by have := (List.getElem?_eq_some_iff.1 hi).1; simpa using this
  have h1 : (w.alloc (.cells ((cutS 10 t).map SV).toArray 9)).heap[w.heap.size]? = some (.cells ((cutS 10 t).map SV).toArray 9) := heap_alloc_new w _
  have h2 : ((⟨w.heap.size, 0, none⟩ : Addr).add i) = ⟨w.heap.size, i, none⟩ := by unfold Addr.add; split <;> simp_all
  rw [h2]
  simp only [World.cell?, h1]
  have h3 : ((linesS t).map SV)[i]? = ((cutS 10 t).map SV)[i]? := by
    unfold linesS
    rw [cutS_lines, List.getElem?_map, List.getElem?_map, List.getElem?_dropLast, if_pos (by omega)]
  rw [h3] at hi
  simpa using hi
set_option maxHeartbeats 2000000 in
set_option maxRecDepth 4000 in
theorem linesOf_any (t : ByteArray) (w : World) (hm : HasMax w) (ht : t.size ≤ 1048576) :
    Calls Tryz.prog 53 #[.string t] w fun e w' => ∃ v, e = .returned (.tuple #[v, .bool (coOk t)]) ∧ (coOk t = true → ∃ a cap, v = .slice a (linesS t).length cap ∧ Slc w' (.slice a (linesS t).length cap) ((linesS t).map SV) ∧ ∃ g cs, a = some ⟨g, 0, none⟩ ∧ w.heap.size ≤ g ∧ Blk w' g 9 cs) ∧ Below w.heap.size w w' := by
  have HM := Lib.hid hm
  clear hm
  by_cases hbig : 16000 < t.size
  · have HOK := Lib.hid (show coOk t = false by unfold coOk; rw [show decide (t.size ≤ 16000) = false by simp; omega]; rfl)
    have hbI : decide ((16000 : Int) < (t.size : Int)) = true := by simp; omega
    go_enter Tryz.func53, Tryz.ntmps53
    go_wp2_with fail
    go_ret2
    exact ⟨_, by rw [HOK.out]; rfl, fun h => (by rw [HOK.out] at h; cases h), Below.refl _ _⟩
  have hbI : ¬ (16000 : Int) < (t.size : Int) := by omega
  have h16 : decide (t.size ≤ 16000) = true := by simp; omega
  have HSP := Lib.hid (fun W h => Split_any t W h ht)
  have HSL := Lib.hid (fun W => slc_lines t W ht)
  obtain ⟨p, hp⟩ : ∃ p, (cutS 10 t).length = p + 1 := ⟨(cutS 10 t).length - 1, by have := cutS_pos 10 t; omega⟩
  have hpb : p ≤ 1048576 := by have := cutS_cnt 10 t; omega
  have hpl : p = (linesS t).length := by rw [linesS_cnt, hp]; rfl
  rw [← hpl] at HSL ⊢
  rw [hp] at HSP HSL

  clear hp hpl
  by_cases he : t.size = 0
  · have ht0 : t = ⟨#[]⟩ := by
      refine ByteArray.ext (Array.ext' ?_)
      have : t.data.toList.length = 0 := by rw [Array.length_toList]; exact he
      rw [List.length_eq_zero_iff.1 this]
    have HOK := Lib.hid (show coOk t = true by unfold coOk; rw [h16, ht0, lastP_empty]; rfl)
    have hes : (t.toList == []) = true := by rw [ht0, ByteArray.toList_eq]; rfl
    clear ht0 h16
    all_goals
      go_enter Tryz.func53, Tryz.ntmps53
      go_wp2_with fail
      refine (HSP.out _ HM.out).mono ?_
      rintro e w1 ⟨rfl, hw1'⟩
      have HW1 := Lib.hid hw1'
      have HB1 := Lib.hid (show Below w.heap.size w w1 by rw [hw1']; exact (Below.refl _ _).alloc (Nat.le_refl _) _)
      clear hw1'
      have hx1 : IntKind.i64.wrap (((p + 1 : Nat) : Int) - 1) = (p : Int) := by rw [show (((p + 1 : Nat) : Int) - 1) = (p : Int) by omega]; exact IntWalk.i64_in _ (by omega)
      have hx2 : IntKind.i64.wrap ((p : Int) + 1 - 1) = (p : Int) := by rw [show ((p : Int) + 1 - 1) = (p : Int) by omega]; exact IntWalk.i64_in _ (by omega)
      have g0 : (0 : Int) ≤ (p : Int) := by omega
      have g1 : (p : Int) ≤ (p : Int) + 1 := by omega
      have g3 : ((p : Int)).toNat = p := by omega
      go_wp2_with fail
      go_ret2
      refine ⟨.slice (some ⟨w.heap.size, 0, none⟩) p (p + 1), by rw [HOK.out]; rfl, fun _ => ⟨some ⟨w.heap.size, 0, none⟩, p + 1, rfl, ?_⟩, HB1.out⟩
      rw [HW1.out]
      exact ⟨HSL.out w, _, _, rfl, Nat.le_refl _, Blk.new _ _ _⟩
  · have hlt1 : t.size - 1 < t.size := by omega
    have hes : (t.toList == []) = false := by
      cases hb : t.toList == []
      · rfl
      · exfalso
        have := eq_of_beq hb
        rw [ByteArray.toList_eq] at this
        have h0 : t.data.toList.length = 0 := by rw [this]; rfl
        rw [Array.length_toList] at h0
        exact he h0
    have hw1 : IntKind.i64.wrap ((t.size : Int) - 1) = ((t.size - 1 : Nat) : Int) := by rw [show ((t.size : Int) - 1) = ((t.size - 1 : Nat) : Int) by omega]; exact IntWalk.i64_in _ (by omega)
    by_cases hnl : t[t.size - 1] = 10
    · have HOK := Lib.hid (show coOk t = true by unfold coOk; rw [h16, show decide ((lastP t).size = 0) = true by rw [decide_eq_true_iff, lastP_size (by omega)]; exact hnl]; rfl)
      have hq : ((t[t.size - 1].toNat : Int) != 10) = false := by rw [hnl]; rfl
      clear hnl h16
      all_goals
      go_enter Tryz.func53, Tryz.ntmps53
      go_wp2_with fail
      refine (HSP.out _ HM.out).mono ?_
      rintro e w1 ⟨rfl, hw1'⟩
      have HW1 := Lib.hid hw1'
      have HB1 := Lib.hid (show Below w.heap.size w w1 by rw [hw1']; exact (Below.refl _ _).alloc (Nat.le_refl _) _)
      clear hw1'
      have hx1 : IntKind.i64.wrap (((p + 1 : Nat) : Int) - 1) = (p : Int) := by rw [show (((p + 1 : Nat) : Int) - 1) = (p : Int) by omega]; exact IntWalk.i64_in _ (by omega)
      have hx2 : IntKind.i64.wrap ((p : Int) + 1 - 1) = (p : Int) := by rw [show ((p : Int) + 1 - 1) = (p : Int) by omega]; exact IntWalk.i64_in _ (by omega)
      have g0 : (0 : Int) ≤ (p : Int) := by omega
      have g1 : (p : Int) ≤ (p : Int) + 1 := by omega
      have g3 : ((p : Int)).toNat = p := by omega
      go_wp2_with fail
      go_ret2
      refine ⟨.slice (some ⟨w.heap.size, 0, none⟩) p (p + 1), by rw [HOK.out]; rfl, fun _ => ⟨some ⟨w.heap.size, 0, none⟩, p + 1, rfl, ?_⟩, HB1.out⟩
      rw [HW1.out]
      exact ⟨HSL.out w, _, _, rfl, Nat.le_refl _, Blk.new _ _ _⟩
    · have HOK := Lib.hid (show coOk t = false by
        unfold coOk
        rw [show decide ((lastP t).size = 0) = false by rw [decide_eq_false_iff_not, lastP_size (by omega)]; exact hnl, Bool.and_false])
      have hq : ((t[t.size - 1].toNat : Int) != 10) = true := by
        simp only [bne_iff_ne, ne_eq]
        intro h
        exact hnl (UInt8.toNat_inj.1 (by show t[t.size - 1].toNat = 10; omega))
      clear hnl h16
      go_enter Tryz.func53, Tryz.ntmps53
      go_wp2_with fail
      go_ret2
      exact ⟨_, by rw [HOK.out]; rfl, fun h => (by rw [HOK.out] at h; cases h), Below.refl _ _⟩
theorem isBad_cases (s : ByteArray) : (isBad s = true ∧ (s.toList == [110, 111]) = true) ∨ (isBad s = true ∧ (s.toList == [110, 111]) = false ∧ (s.toList == [119, 104, 97, 116]) = true) ∨ (isBad s = false ∧ (s.toList == [110, 111]) = false ∧ (s.toList == [119, 104, 97, 116]) = false) := by
  unfold isBad
  cases h1 : s.toList == [110, 111]
  · cases h2 : s.toList == [119, 104, 97, 116]
    · exact .inr (.inr ⟨rfl, rfl, rfl⟩)
    · exact .inr (.inl ⟨rfl, rfl, rfl⟩)
  · exact .inl ⟨rfl, rfl⟩
set_option maxHeartbeats 2000000 in
set_option maxRecDepth 4000 in
theorem coutI_any (t : ByteArray) (w : World) (hm : HasMax w) (ht : t.size ≤ 1048576) :
    Calls Tryz.prog 26 #[.string t] w fun e w' => e = .returned (.tuple #[.int .i64 (coBad t : Nat), .int .i64 (coGood t : Nat), .bool (coOk t)]) ∧ Below w.heap.size w w' := by
  have HLO := Lib.hid (linesOf_any t w hm ht)
  have hle := linesS_le t
  have HNO := Lib.hid (show coOk t = false → coBad t = 0 ∧ coGood t = 0 from coNo)
  have HYE := Lib.hid (show coOk t = true → coBad t = badK (linesS t) (linesS t).length ∧ coGood t = (linesS t).length - badK (linesS t) (linesS t).length from coYes)
  obtain ⟨q, hq⟩ : ∃ q, q = coOk t := ⟨_, rfl⟩
  obtain ⟨LN, hLN⟩ : ∃ LN, LN = linesS t := ⟨_, rfl⟩
  rw [← hq] at HLO HNO HYE ⊢
  rw [← hLN] at HLO HYE hle
  obtain ⟨m, hmn⟩ : ∃ m, m = LN.length := ⟨_, rfl⟩
  rw [← hmn] at HLO HYE hle
  have HML := Lib.hid hmn
  clear hm hq hLN hmn
  go_enter Tryz.func26, Tryz.ntmps26
  go_wp2_with fail
  refine HLO.out.mono ?_
  rintro e w1 ⟨v, rfl, hv, hb1⟩
  have HB1 := Lib.hid hb1
  clear hb1 HLO
  cases q with
  | false =>
    have HR := Lib.hid (HNO.out rfl)
    go_wp2_with fail
    refine bodyPost_ret (v := .tuple #[.int .i64 0, .int .i64 0, .bool false]) (by simp [results, Tryz.results26, go_sem, *]) rfl ?_
    exact ⟨by rw [HR.out.1, HR.out.2]; rfl, HB1.out⟩
  | true =>
    obtain ⟨a, cap, rfl, hsl, _⟩ := hv rfl
    have HSL := Lib.hid hsl
    have HR := Lib.hid (HYE.out rfl)
    clear hsl hv
    go_wp2_with fail
    go_loop [7, 8, 20] (fun bv gv iv => ∃ k b : Nat, iv = .int .i64 k ∧ k ≤ m ∧ bv = .int .i64 b ∧ gv = .int .i64 ((k - b : Nat) : Int) ∧ b ≤ k ∧ Hid (b = badK LN k)) (fun _ _ iv => m - (intOf iv).toNat)
    case atStart => exact ⟨0, 0, rfl, Nat.zero_le _, rfl, rfl, Nat.le_refl _, Lib.hid rfl⟩
    case round =>
      obtain ⟨k, b, rfl, hk, rfl, rfl, hbk, HBD⟩ := hrel
      by_cases hlt : k < m
      · have hltI : (k : Int) < (m : Int) := by omega
        have hkl : k < LN.length := by rw [← HML.out]; exact hlt
        obtain ⟨bb, off, rfl, hb0, hc⟩ := Slc.at HSL.out (show (LN.map SV)[k]? = some (.string (LN.getD k E0)) by simp [hkl, SV])
        have HST := Lib.hid (show badK LN (k + 1) = badK LN k + (if isBad (LN.getD k E0) = true then 1 else 0) from rfl)
        obtain ⟨s, hs⟩ : ∃ s, s = LN.getD k E0 := ⟨_, rfl⟩
        rw [← hs] at hc HST
        clear hs
        obtain ⟨g, hg⟩ : ∃ g : Nat, g = k - b := ⟨_, rfl⟩
        rw [← hg]
        rcases isBad_cases s with ⟨h1, h2⟩ | ⟨h1, h2, h3⟩ | ⟨h1, h2, h3⟩
        · have HS1 := Lib.hid (show badK LN (k + 1) = b + 1 by rw [HST.out, h1, ← HBD.out]; rfl)
          clear h1
          go_wp2_with fail
          go_round
          case rel => exact ⟨k + 1, b + 1, by go_num, by omega, by go_num, by rw [show k + 1 - (b + 1) = g by omega], by omega, Lib.hid HS1.out.symm⟩
          case measure => simp [intOf]; omega
        · have HS1 := Lib.hid (show badK LN (k + 1) = b + 1 by rw [HST.out, h1, ← HBD.out]; rfl)
          clear h1
          go_wp2_with fail
          go_round
          case rel => exact ⟨k + 1, b + 1, by go_num, by omega, by go_num, by rw [show k + 1 - (b + 1) = g by omega], by omega, Lib.hid HS1.out.symm⟩
          case measure => simp [intOf]; omega
        · have HS1 := Lib.hid (show badK LN (k + 1) = b by rw [HST.out, h1, ← HBD.out]; rfl)
          clear h1
          go_wp2_with fail
          go_round
          case rel => exact ⟨k + 1, b, by go_num, by omega, rfl, by rw [show k + 1 - b = g + 1 by omega]; go_num, by omega, Lib.hid HS1.out.symm⟩
          case measure => simp [intOf]; omega
      · obtain rfl : k = m := by omega
        go_wp2_with fail
        refine bodyPost_ret (v := .tuple #[.int .i64 b, .int .i64 ((k - b : Nat) : Int), .bool true]) (by simp [results, Tryz.results26, go_sem, *]) rfl ?_
        exact ⟨by rw [HR.out.1, HR.out.2, ← HBD.out], HB1.out⟩
end Go.Proofs.YtgkbbpajkbkgnaaGreatDoor

namespace Go.Proofs.YtgkbbpajkbkgnaaGreatDoor
open Go.RowKit
/-- Lines, each ended by a newline. -/
def scr : List ByteArray → ByteArray
  | [] => E0
  | l :: r => l ++ B1 10 ++ scr r
theorem scr_app : ∀ (a b : List ByteArray), scr (a ++ b) = scr a ++ scr b
  | [], b => by show scr b = E0 ++ scr b; rw [show E0 = ByteArray.empty from rfl, ByteArray.empty_append]
  | l :: r, b => by
    show l ++ B1 10 ++ scr (r ++ b) = l ++ B1 10 ++ scr r ++ scr b
    rw [scr_app r b, ByteArray.append_assoc (a := l ++ B1 10)]
theorem scr_one (l : ByteArray) : scr [l] = l ++ B1 10 := by
  show l ++ B1 10 ++ E0 = _
  rw [show E0 = ByteArray.empty from rfl, ByteArray.append_empty]
theorem scr_snoc (a : List ByteArray) (l : ByteArray) : scr (a ++ [l]) = scr a ++ (l ++ B1 10) := by rw [scr_app, scr_one]
theorem scr_data (l : ByteArray) (r : List ByteArray) : (scr (l :: r)).data.toList = l.data.toList ++ 10 :: (scr r).data.toList := by
  show (l ++ B1 10 ++ scr r).data.toList = _
  rw [ByteArray.data_append, ByteArray.data_append, Array.toList_append, Array.toList_append, List.append_assoc]
  rfl
def NoNL (ls : List ByteArray) : Prop := ∀ x ∈ ls, (10 : UInt8) ∉ x.data.toList
theorem scr_parts : ∀ {ls : List ByteArray}, NoNL ls → partsC 10 (scr ls).data.toList = ls.map (·.data.toList) ++ [[]]
  | [], _ => rfl
  | l :: r, h => by
    rw [scr_data, partsC_hit (h l (by simp)), scr_parts (fun x hx => h x (by simp [hx]))]
    rfl
theorem scr_lines {ls : List ByteArray} (h : NoNL ls) : linesS (scr ls) = ls := by
  unfold linesS linesL
  rw [scr_parts h, List.dropLast_concat, List.map_map]
  have : (mkB ∘ fun (s : ByteArray) => s.data.toList) = id := by funext s; exact mkB_of s
  rw [this, List.map_id]
theorem scr_ok {ls : List ByteArray} (h : NoNL ls) (hs : (scr ls).size ≤ 16000) : coOk (scr ls) = true := by
  obtain ⟨e, he, hl⟩ := lastP_last (scr ls)
  rw [scr_parts h, List.getLast?_concat] at he
  cases he
  unfold coOk
  rw [hl, decide_eq_true hs]
  rfl
theorem scr_size : ∀ {ls : List ByteArray} {N : Nat}, (∀ x ∈ ls, x.size ≤ N) → (scr ls).size ≤ (N + 1) * ls.length
  | [], N, _ => by simp [scr, E0, ByteArray.size]
  | l :: r, N, h => by
    have ih := scr_size (ls := r) (N := N) fun x hx => h x (by simp [hx])
    have h1 := h l (by simp)
    show (l ++ B1 10 ++ scr r).size ≤ _
    rw [ByteArray.size_append, ByteArray.size_append, show (B1 10).size = 1 from rfl, List.length_cons, Nat.mul_succ]
    omega
noncomputable def stK (d : DeskD) (ls : List ByteArray) : Nat → DeskD
  | 0 => d
  | k + 1 => (cmdK (stK d ls k) (ls.getD k E0)).1
noncomputable def ansK (d : DeskD) (ls : List ByteArray) (k : Nat) : ByteArray := (cmdK (stK d ls k) (ls.getD k E0)).2
noncomputable def outsK (d : DeskD) (ls : List ByteArray) (k : Nat) : List ByteArray := (List.range k).map (ansK d ls)
theorem outsK_succ (d : DeskD) (ls : List ByteArray) (k : Nat) : outsK d ls (k + 1) = outsK d ls k ++ [ansK d ls k] := by
  unfold outsK
  rw [List.range_succ, List.map_append]
  rfl
theorem outsK_len (d : DeskD) (ls : List ByteArray) (k : Nat) : (outsK d ls k).length = k := by simp [outsK]
theorem outsK_scr (d : DeskD) (ls : List ByteArray) (k : Nat) : scr (outsK d ls (k + 1)) = scr (outsK d ls k) ++ (ansK d ls k ++ B1 10) := by rw [outsK_succ, scr_snoc]
theorem stK_valid {d : DeskD} (h : validDk d = true) (ls : List ByteArray) : ∀ k, validDk (stK d ls k) = true
  | 0 => h
  | k + 1 => cmd_valid (stK_valid h ls k) _
theorem stK_bits {d : DeskD} (h : BitsD d) (ls : List ByteArray) : ∀ k, BitsD (stK d ls k)
  | 0 => h
  | k + 1 => cmd_bits (stK_bits h ls k) _
noncomputable def rdkD (d : DeskD) (s : ByteArray) : DeskD := stK d (linesS s) (linesS s).length
noncomputable def rdkT (d : DeskD) (s : ByteArray) : ByteArray := scr (outsK d (linesS s) (linesS s).length)
end Go.Proofs.YtgkbbpajkbkgnaaGreatDoor

namespace Go.Proofs.YtgkbbpajkbkgnaaGreatDoor
open Go.RowKit Go.Sort
section
attribute [local go_sem ↓] stDeskP
attribute [local go_sem] stDesk_in stDesk_run
end
/-- Rows of bytes, and the builder's own block. -/
def BufS (w : World) (b : Nat) : Nat → Prop := fun k => k = b ∨ ∃ cs fz, w.heap[k]? = some (.cells cs 5 fz)
theorem own_type {w : World} {base size : Nat} {e : TypeId} {v : Value} {n g : Nat} {vs : List Value} (h : w.ownsRow base e size v n vs) (hg : v.ownBlock = some g) : ∃ cs, w.heap[g]? = some (.cells cs e (0, 0)) := by
  rcases h.2 with ⟨rfl, _⟩ | ⟨g', cap, cur, rfl, _, hc, _⟩
  · cases hg
  · obtain rfl : g' = g := Option.some.inj hg
    exact ⟨cur, hc⟩
theorem kept_others {B b : Nat} {w w' : World} (h : Lib.OthersKept 5 (some b) w w') (hb : Below B w w') : Kept (BufS w b) w w' :=
  ⟨hb.os, hb.tape, hb.output, hb.size, fun k hk hs => by
    have h0 : w.heap[k]? = some w.heap[k] := Array.getElem?_eq_getElem hk
    rw [h0]
    exact h k _ h0 (fun e => hs (.inl (Option.some.inj e))) (fun c fz e => hs (.inr ⟨c, fz, h0.trans (congrArg some e)⟩))⟩
theorem own_bufs {w w' : World} {base size : Nat} {e : TypeId} {v : Value} {n : Nat} {vs : List Value} {b : Nat} {bcs : Array Value} (h : w.ownsRow base e size v n vs) (hk : Kept (BufS w b) w w') (hb : Blk w b TB bcs) (h1 : 5 ≠ e) (h2 : TB ≠ e) : w'.ownsRow base e size v n vs := by
  refine ownsK_kept h hk fun g hg hs => ?_
  rcases hs with rfl | ⟨cs, fz, hc⟩
  · exact hb.not_owned h h2 hg
  · obtain ⟨cs2, hc2⟩ := own_type h hg
    rw [hc2] at hc
    simp only [Option.some.injEq, Obj.cells.injEq] at hc
    exact h1 hc.2.1.symm
theorem OwnDx.bufs {lo : Nat} {w w' : World} {v : Value} {d : DeskD} {b : Nat} {bcs : Array Value} (h : OwnDx lo w v d) (hk : Kept (BufS w b) w w') (hb : Blk w b TB bcs) : OwnDx lo w' v d := by
  obtain ⟨va, vb, vc, vs, vj, vw, e, ⟨wa, wb, wc, e2, f1, f2, f3, dd⟩, o2, o3, o4, dj⟩ := h
  have hz := hk.size
  exact ⟨va, vb, vc, vs, vj, vw, e, ⟨wa, wb, wc, e2, ⟨own_bufs f1.1 hk hb (by decide) (by decide), fun g hg => Nat.lt_of_lt_of_le (f1.2 g hg) hz⟩, ⟨own_bufs f2.1 hk hb (by decide) (by decide), fun g hg => Nat.lt_of_lt_of_le (f2.2 g hg) hz⟩, ⟨own_bufs f3.1 hk hb (by decide) (by decide), fun g hg => Nat.lt_of_lt_of_le (f3.2 g hg) hz⟩, dd⟩, ⟨own_bufs o2.1 hk hb (by decide) (by decide), fun g hg => Nat.lt_of_lt_of_le (o2.2 g hg) hz⟩, ⟨own_bufs o3.1 hk hb (by decide) (by decide), fun g hg => Nat.lt_of_lt_of_le (o3.2 g hg) hz⟩, ⟨own_bufs o4.1 hk hb (by decide) (by decide), fun g hg => Nat.lt_of_lt_of_le (o4.2 g hg) hz⟩, dj⟩
theorem blk_bufs {w w' : World} {b g : Nat} {t : TypeId} {cs bcs : Array Value} (h : Blk w g t cs) (hk : Kept (BufS w b) w w') (hb : Blk w b TB bcs) (h1 : t ≠ 5) (h2 : t ≠ TB) : Blk w' g t cs := by
  refine h.kept hk fun hs => ?_
  have e1 : w.heap[g]? = _ := h
  rcases hs with rfl | ⟨c', fz, hc⟩
  · have e2 : w.heap[g]? = _ := hb
    rw [e1] at e2
    simp only [Option.some.injEq, Obj.cells.injEq] at e2
    exact h2 e2.2.1
  · rw [e1] at hc
    simp only [Option.some.injEq, Obj.cells.injEq] at hc
    exact h1 hc.2.1
theorem IsB.blk {B b : Nat} {bs : List Value} {w : World} (h : Lib.IsBuilder TB 5 B b bs w) : ∃ cs, Blk w b TB cs := by
  rcases h with ⟨_, v, h2, _⟩ | ⟨_, v, h2, _⟩
  · exact ⟨_, h2⟩
  · exact ⟨_, h2⟩
/-- A builder stays one where a block of another kind changes. -/
theorem isB_other {B b g : Nat} {bs : List Value} {w w' : World} {t : TypeId} {cs : Array Value} (h : Lib.IsBuilder TB 5 B b bs w) (hg : Blk w g t cs) (h1 : t ≠ TB) (h2 : t ≠ 5) (hk : Kept (· = g) w w') : Lib.IsBuilder TB 5 B b bs w' := by
  have f : ∀ {p : Value}, Lib.BuilderAt TB 5 B b p bs w → Lib.BuilderAt TB 5 B b p bs w' := by
    rintro p ⟨q1, v, q2, q3, q4⟩
    have hlt : b < w.heap.size := (show Blk w b TB _ from q2).lt
    refine ⟨q1, v, (hk.block b hlt fun e => ?_).trans q2, ownsK_kept q3 hk fun k hk2 e => ?_, q4⟩
    · subst e
      have e1 : w.heap[b]? = _ := hg
      rw [q2] at e1
      simp only [Option.some.injEq, Obj.cells.injEq] at e1
      exact h1 e1.2.1.symm
    · subst e
      exact hg.not_owned q3 h2 hk2
  rcases h with h | h
  · exact .inl (f h)
  · exact .inr (f h)
theorem copyCheckK_any (B b : Nat) (bs : List Value) (w : World) (h : Lib.IsBuilder TB 5 B b bs w) :
    Calls Tryz.prog 125 #[.pointer (some ⟨b, 0, none⟩)] w fun e w' => e = .returned (.tuple #[]) ∧ (Lib.BuilderAt TB 5 B b (.pointer (some ⟨b, 0, none⟩)) bs w' ∧ Kept (· = b) w w' ∧ w'.heap.size = w.heap.size) := by
  rcases h with h | h
  · refine (copyCheck_fresh b w h.cell0 h.shape h.frozen0).mono ?_
    rintro e w' ⟨rfl, rfl⟩
    exact ⟨rfl, h.used _, (Kept.refl (· = b) w).setCell (p := ⟨b, 0, none⟩) (.inr rfl) _, by simp [World.setCell]⟩
  · refine (copyCheck_used b w h.cell0).mono ?_
    rintro e w' ⟨rfl, rfl⟩
    exact ⟨rfl, h, Kept.refl _ _, rfl⟩
set_option maxHeartbeats 1000000 in
set_option maxRecDepth 100000 in
/-- A text is written: what changes are the builder and a row of bytes. -/
theorem WriteStringK_any (B b : Nat) (bs : List Value) (s : ByteArray) (w : World) (h : Lib.IsBuilder TB 5 B b bs w) (hlen : bs.length + s.size ≤ 140737488355328) (hBw : B ≤ w.heap.size) :
    Calls Tryz.prog 56 #[.pointer (some ⟨b, 0, none⟩), .string s] w fun e w' => e = .returned (.tuple #[.int .i64 s.size, .nilIface]) ∧ Lib.IsBuilder TB 5 B b (bs ++ Lib.strCells s) w' ∧ Kept (BufS w b) w w' ∧ Below B w w' := by
  obtain ⟨i0, hi, hz0, hz1, hz2⟩ := info_parts Tryz.infoByte
  go_enter Tryz.func56, Tryz.ntmps56
  go_wp2_with (go_at_call 125; refine (copyCheckK_any B b bs _ h).mono ?_)
  rintro e w1 ⟨rfl, h1, hk1, hs1⟩
  obtain ⟨hB, v, hbk, hown, hne⟩ := h1
  have hb1 : Below B w w1 := hk1.toBelow hBw (fun k a c => by omega)
  have c0 : w1.cell? ⟨b, 0, none⟩ = some (.pointer (some ⟨b, 0, none⟩)) := by rw [Lib.cell_of_heap hbk]; rfl
  have c1 : w1.cell? ⟨b, 1, none⟩ = some v := by rw [Lib.cell_of_heap hbk]; rfl
  go_wp2_with (at_builtin; refine Lib.wpList_append_own_string _ rfl _ _ 22 9 rfl B 5 i0 Tryz.underlying22 Tryz.underlying9 hi hz0 hz1 hz2 _ _ _ rfl hown s rfl ?c3 ?c4 ?c5 ?_)
  case c3 => unfold maxLen; omega
  case c4 => omega
  case c5 => omega
  intro v' w2 hown' hgrow _
  have hlt : b < w1.heap.size := by
    rcases Nat.lt_or_ge b w1.heap.size with h' | h'
    · exact h'
    · simp [Array.getElem?_eq_none h'] at hbk
  have hb2 : w2.heap[b]? = some (.cells #[.pointer (some ⟨b, 0, none⟩), v] TB (0, 0)) := by
    rw [hgrow.block b hlt (fun e => hne e.symm)]
    exact hbk
  have d0 : w2.cell? ⟨b, 0, none⟩ = some (.pointer (some ⟨b, 0, none⟩)) := by rw [Lib.cell_of_heap hb2]; rfl
  have d1 : w2.cell? ⟨b, 1, none⟩ = some v := by rw [Lib.cell_of_heap hb2]; rfl
  have f1 : w2.frozen? ⟨b, 1, none⟩ = false := Lib.frozen_of_heap hb2 1
  obtain ⟨ao, n', cap, rfl⟩ : ∃ ao n' cap, v' = .slice ao n' cap := by
    rcases hown'.2 with ⟨hv, _⟩ | ⟨g, cap, cur, hv, _⟩
    · exact ⟨_, _, _, hv⟩
    · exact ⟨_, _, _, hv⟩
  have HKP := Lib.hid (show Kept (BufS w b) w w2 from (hk1.mono (S' := BufS w b) (fun i _ e => .inl e)).grown hgrow (fun k hk => by
    rcases hown.2 with ⟨hv, _⟩ | ⟨g, cap', cur, hv, _, hg, _⟩
    · rw [hv] at hk; simp [Value.ownBlock] at hk
    · have e : g = k := by rw [hv] at hk; exact Option.some.inj hk
      subst e
      have hgl : g < w1.heap.size := (show Blk w1 g 5 _ from hg).lt
      refine .inr (.inr ⟨cur, (0, 0), ?_⟩)
      have := hk1.block g (by omega) (fun e => hne (by rw [hv, e]; rfl))
      exact this.symm.trans hg))
  go_wp2
  go_ret2
  refine ⟨rfl, .inr ?_, HKP.out.setCell (p := ⟨b, 1, none⟩) (.inr (.inl rfl)) _, ?_⟩
  · exact Lib.BuilderAt.put (T := TB) (e := 5) hB hb2 (bs' := bs ++ Lib.strCells s) (by simpa [Lib.strCells_length] using hown') Tryz.neB5
  · exact (hb1.grown hgrow (by have := hb1.size; omega) (fun k hk => (hown.lt k hk).1)).setCell (p := ⟨b, 1, none⟩) hB _
end Go.Proofs.YtgkbbpajkbkgnaaGreatDoor

namespace Go.Proofs.YtgkbbpajkbkgnaaGreatDoor
open Go.RowKit
def newD : DeskD := ⟨⟨2, [1065353216, 1065353216, 1065353216, 0], [1082130432, 1077936128], [1073741824, 1065353216]⟩, [4, 3, 3], [⟨2, 2, 1, 0⟩, ⟨1, 3, 1, 0⟩], [0, 1, 2, 1, 1, 0, 1, 2, 2, 1, 0, 1, 1, 2, 1, 0]⟩
theorem bp_at {P : Program} {f : Func} {R : Ending → World → Prop} {ex : Exit} {a : Act} {w : World} (h : ∀ W, W = w → bodyPost P f R ex a W) : bodyPost P f R ex a w := h w rfl
theorem blkD_newB (w : World) (t : TypeId) (cs : Array Value) (b : Nat) (hb : b = w.heap.size) : Blk (w.alloc (.cells cs t)) b t cs := by subst hb; exact Blk.new w t cs
/-- A block that holds a whole row. -/
theorem owns_blk {w : World} {g : Nat} {t : TypeId} {c : Array Value} (h : Blk w g t c) (n size : Nat) (hn : c.size = n * size) (hm : n ≤ maxLen) : w.ownsRow g t size (.slice (some ⟨g, 0, none⟩) n n) n c.toList :=
  ⟨by simpa using hn, .inr ⟨g, n, c, rfl, Nat.le_refl _, h, Nat.le_refl _, hm, hn, List.take_of_length_le (by rw [Array.length_toList, hn]; exact Nat.le_refl _)⟩⟩
/-- The six rows make the desk. -/
theorem newD_own {w : World} {B1 B2 B3 B4 B5 B6 lo : Nat} (h1 : Blk w B1 100 #[.float .f32 1065353216, .float .f32 1065353216, .float .f32 1065353216, .float .f32 0]) (h2 : Blk w B2 100 #[.float .f32 1082130432, .float .f32 1077936128]) (h3 : Blk w B3 100 #[.float .f32 1073741824, .float .f32 1065353216]) (h4 : Blk w B4 2 #[.int .i64 4, .int .i64 3, .int .i64 3]) (h5 : Blk w B5 86 #[.int .i64 2, .int .i64 2, .int .i64 1, .int .i64 0, .int .i64 1, .int .i64 3, .int .i64 1, .int .i64 0]) (h6 : Blk w B6 2 #[.int .i64 0, .int .i64 1, .int .i64 2, .int .i64 1, .int .i64 1, .int .i64 0, .int .i64 1, .int .i64 2, .int .i64 2, .int .i64 1, .int .i64 0, .int .i64 1, .int .i64 1, .int .i64 2, .int .i64 1, .int .i64 0])
    (hlo : lo ≤ B1) (a1 : B1 < B2) (a2 : B2 < B3) (a3 : B3 < B4) (a4 : B4 < B5) (a5 : B5 < B6) :
    OwnD lo w.heap.size w (.agg #[.int .i64 2, .slice (some ⟨B1, 0, none⟩) 4 4, .slice (some ⟨B2, 0, none⟩) 2 2, .slice (some ⟨B3, 0, none⟩) 2 2, .slice (some ⟨B4, 0, none⟩) 3 3, .slice (some ⟨B5, 0, none⟩) 2 2, .slice (some ⟨B6, 0, none⟩) 16 16]) newD := by
  have o1 : OwnF B1 (B1 + 1) w (.slice (some ⟨B1, 0, none⟩) 4 4) newD.rows.nums := ⟨owns_blk h1 4 1 rfl (by decide), by intro g hg; simp [Value.ownBlock] at hg; omega⟩
  have o2 : OwnF B2 (B2 + 1) w (.slice (some ⟨B2, 0, none⟩) 2 2) newD.rows.bnds := ⟨owns_blk h2 2 1 rfl (by decide), by intro g hg; simp [Value.ownBlock] at hg; omega⟩
  have o3 : OwnF B3 (B3 + 1) w (.slice (some ⟨B3, 0, none⟩) 2 2) newD.rows.gains := ⟨owns_blk h3 2 1 rfl (by decide), by intro g hg; simp [Value.ownBlock] at hg; omega⟩
  have o4 : OwnI B4 (B4 + 1) w (.slice (some ⟨B4, 0, none⟩) 3 3) newD.sizes := ⟨owns_blk h4 3 1 rfl (by decide), by intro g hg; simp [Value.ownBlock] at hg; omega⟩
  have o5 : OwnJ B5 (B5 + 1) w (.slice (some ⟨B5, 0, none⟩) 2 2) newD.jobs := ⟨owns_blk h5 2 4 rfl (by decide), by intro g hg; simp [Value.ownBlock] at hg; omega⟩
  have o6 : OwnI B6 (B6 + 1) w (.slice (some ⟨B6, 0, none⟩) 16 16) newD.ways := ⟨owns_blk h6 16 1 rfl (by decide), by intro g hg; simp [Value.ownBlock] at hg; omega⟩
  have hl := h6.lt
  refine ⟨_, _, _, _, _, _, B1, B3 + 1, B4, B4 + 1, B5, B5 + 1, B6, B6 + 1, rfl, ⟨_, _, _, rfl, o1.wide (by omega) (by omega), o2.wide (by omega) (by omega), o3.wide (by omega) (by omega), ?_, ?_, ?_⟩, o4, o5, o6, hlo, by omega, by omega, by omega, by omega, by omega, by omega, by omega, by omega, by omega⟩
  · intro g q1 q2; simp [Value.ownBlock] at q1 q2; omega
  · intro g q1 q2; simp [Value.ownBlock] at q1 q2; omega
  · intro g q1 q2; simp [Value.ownBlock] at q1 q2; omega
set_option maxHeartbeats 2000000 in
set_option maxRecDepth 4000 in
theorem implNewDesk_any (w : World) :
    Calls Tryz.prog 17 #[] w fun e w' => ∃ v', e = .returned v' ∧ OwnD w.heap.size w'.heap.size w' v' newD ∧ Below w.heap.size w w' := by
  go_enter Tryz.func17, Tryz.ntmps17
  go_wp2_with fail
  refine bp_at fun W hW => ?_
  have h1 := Lib.hid (show Blk W (w.heap.size + 1) 100 #[.float .f32 1065353216, .float .f32 1065353216, .float .f32 1065353216, .float .f32 0] from (by subst hW; (repeat' first | exact blkD_newB _ _ _ _ (by first | rfl | (simp; done)) | refine Blk.alloc ?_ _)))
  have h2 := Lib.hid (show Blk W (w.heap.size + 1 + 1) 100 #[.float .f32 1082130432, .float .f32 1077936128] from (by subst hW; (repeat' first | exact blkD_newB _ _ _ _ (by first | rfl | (simp; done)) | refine Blk.alloc ?_ _)))
  have h3 := Lib.hid (show Blk W (w.heap.size + 1 + 1 + 1) 100 #[.float .f32 1073741824, .float .f32 1065353216] from (by subst hW; (repeat' first | exact blkD_newB _ _ _ _ (by first | rfl | (simp; done)) | refine Blk.alloc ?_ _)))
  have h4 := Lib.hid (show Blk W (w.heap.size + 1 + 1 + 1 + 1) 2 #[.int .i64 4, .int .i64 3, .int .i64 3] from (by subst hW; (repeat' first | exact blkD_newB _ _ _ _ (by first | rfl | (simp; done)) | refine Blk.alloc ?_ _)))
  have h5 := Lib.hid (show Blk W (w.heap.size + 1 + 1 + 1 + 1 + 1) 86 #[.int .i64 2, .int .i64 2, .int .i64 1, .int .i64 0, .int .i64 1, .int .i64 3, .int .i64 1, .int .i64 0] from (by subst hW; (repeat' first | exact blkD_newB _ _ _ _ (by first | rfl | (simp; done)) | refine Blk.alloc ?_ _)))
  have h6 := Lib.hid (show Blk W (w.heap.size + 1 + 1 + 1 + 1 + 1 + 1) 2 #[.int .i64 0, .int .i64 1, .int .i64 2, .int .i64 1, .int .i64 1, .int .i64 0, .int .i64 1, .int .i64 2, .int .i64 2, .int .i64 1, .int .i64 0, .int .i64 1, .int .i64 1, .int .i64 2, .int .i64 1, .int .i64 0] from (by subst hW; (repeat' first | exact blkD_newB _ _ _ _ (by first | rfl | (simp; done)) | refine Blk.alloc ?_ _)))
  have hD := Lib.hid (show Blk W w.heap.size 30 #[.int .i64 2, .slice (some ⟨w.heap.size + 1, 0, none⟩) 4 4, .slice (some ⟨w.heap.size + 1 + 1, 0, none⟩) 2 2, .slice (some ⟨w.heap.size + 1 + 1 + 1, 0, none⟩) 2 2, .slice (some ⟨w.heap.size + 1 + 1 + 1 + 1, 0, none⟩) 3 3, .slice (some ⟨w.heap.size + 1 + 1 + 1 + 1 + 1, 0, none⟩) 2 2, .slice (some ⟨w.heap.size + 1 + 1 + 1 + 1 + 1 + 1, 0, none⟩) 16 16] by subst hW; exact ((((((Blk.new _ _ _).alloc _).alloc _).alloc _).alloc _).alloc _).alloc _)
  have HB := Lib.hid (show Below w.heap.size w W by subst hW; (repeat' first | exact Below.refl _ _ | assumption | refine Below.alloc ?_ ?_ _ | refine Below.setCell ?_ ?_ _ | refine Below.drew ?_ | (simp; done) | (simp; omega)))
  clear hW
  have c0 : W.cell? ⟨w.heap.size, 0, none⟩ = some (.int .i64 2) := hD.out.cell 0 rfl
  have c1 : W.cell? ⟨w.heap.size, 1, none⟩ = some (.slice (some ⟨w.heap.size + 1, 0, none⟩) 4 4) := hD.out.cell 1 rfl
  have c2 : W.cell? ⟨w.heap.size, 2, none⟩ = some (.slice (some ⟨w.heap.size + 1 + 1, 0, none⟩) 2 2) := hD.out.cell 2 rfl
  have c3 : W.cell? ⟨w.heap.size, 3, none⟩ = some (.slice (some ⟨w.heap.size + 1 + 1 + 1, 0, none⟩) 2 2) := hD.out.cell 3 rfl
  have c4 : W.cell? ⟨w.heap.size, 4, none⟩ = some (.slice (some ⟨w.heap.size + 1 + 1 + 1 + 1, 0, none⟩) 3 3) := hD.out.cell 4 rfl
  have c5 : W.cell? ⟨w.heap.size, 5, none⟩ = some (.slice (some ⟨w.heap.size + 1 + 1 + 1 + 1 + 1, 0, none⟩) 2 2) := hD.out.cell 5 rfl
  have c6 : W.cell? ⟨w.heap.size, 6, none⟩ = some (.slice (some ⟨w.heap.size + 1 + 1 + 1 + 1 + 1 + 1, 0, none⟩) 16 16) := hD.out.cell 6 rfl
  refine bodyPost_ret (v := .agg #[.int .i64 2, .slice (some ⟨w.heap.size + 1, 0, none⟩) 4 4, .slice (some ⟨w.heap.size + 1 + 1, 0, none⟩) 2 2, .slice (some ⟨w.heap.size + 1 + 1 + 1, 0, none⟩) 2 2, .slice (some ⟨w.heap.size + 1 + 1 + 1 + 1, 0, none⟩) 3 3, .slice (some ⟨w.heap.size + 1 + 1 + 1 + 1 + 1, 0, none⟩) 2 2, .slice (some ⟨w.heap.size + 1 + 1 + 1 + 1 + 1 + 1, 0, none⟩) 16 16]) (by simp [results, Tryz.results17, go_sem, c0, c1, c2, c3, c4, c5, c6]) rfl ?_
  exact ⟨_, rfl, newD_own h1.out h2.out h3.out h4.out h5.out h6.out (by omega) (by omega) (by omega) (by omega) (by omega) (by omega), HB.out⟩
end Go.Proofs.YtgkbbpajkbkgnaaGreatDoor
