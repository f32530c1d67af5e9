/-
  FnExactReadRows: texts joined: CutS, RcJI, CountM, Split, FlM, Step, AppF, Fin.
-/
import Derived.Deep.RegionHeld3
import Derived.Lib.SplitLaws
import Derived.Deep.CutRange
import Derived.Test.YtggpbekclegfoaaDoorMEReadRowsAA
import Derived.Test.YtggpbekclegfoaaDoorMEReadRowsAD
import Derived.Test.YtggpbekclegfoaaDoorMEReadRowsAE
namespace Go.Proofs.YtggpbekclegfoaaDoor
open Go.RowKit

/-- No byte c from place f up to place i. -/
def NoC (c : UInt8) (s : ByteArray) (f i : Nat) : Prop := ∀ j (hj : j < s.size), f ≤ j → j < i → s[j] ≠ c
theorem noC_mem {c : UInt8} {s : ByteArray} {f i : Nat} (h : NoC c s f i) (hi : i ≤ s.size) : c ∉ ((s.data.toList.drop f).take (i - f)) := by
  intro hm
  obtain ⟨k, hk, he⟩ := List.mem_iff_getElem.1 hm
  rw [List.length_take, List.length_drop, Array.length_toList] at hk
  have hks : f + k < s.size := by have : s.data.size = s.size := rfl; omega
  refine h (f + k) hks (by omega) (by omega) ?_
  rw [← he, List.getElem_take, List.getElem_drop, Array.getElem_toList]
  rfl
theorem drop_split {s : ByteArray} {f i : Nat} (hf : f ≤ i) (hi : i < s.size) : s.data.toList.drop f = (s.data.toList.drop f).take (i - f) ++ s[i] :: s.data.toList.drop (i + 1) := by
  conv => lhs; rw [← List.take_append_drop (i - f) (s.data.toList.drop f)]
  congr 1
  rw [List.drop_drop, show f + (i - f) = i by omega]
  have hk : i < s.data.toList.length := by rw [Array.length_toList]; exact hi
  rw [List.drop_eq_getElem_cons hk, Array.getElem_toList]
  rfl
theorem parts_step {c : UInt8} {s : ByteArray} {f i : Nat} (h : NoC c s f i) (hf : f ≤ i) (hi : i < s.size) (hc : s[i] = c) : (partsC c (s.data.toList.drop f)).map mkB = s.extract f i :: (partsC c (s.data.toList.drop (i + 1))).map mkB := by
  rw [drop_split hf hi, hc, partsC_hit (noC_mem h (by omega)), List.map_cons]
  congr 1
  unfold mkB
  refine ByteArray.ext ?_
  rw [ByteArray.data_extract]
  refine Array.ext' ?_
  simp [Array.toList_extract, List.extract_eq_take_drop]
theorem parts_last {c : UInt8} {s : ByteArray} {f : Nat} (h : NoC c s f s.size) (hf : f ≤ s.size) : (partsC c (s.data.toList.drop f)).map mkB = [s.extract f s.size] := by
  have h1 := noC_mem h (Nat.le_refl _)
  have hl : (s.data.toList.drop f).length = s.size - f := by rw [List.length_drop, Array.length_toList]; rfl
  rw [List.take_of_length_le (by omega)] at h1
  rw [partsC_none h1]
  show [mkB _] = _
  congr 1
  unfold mkB
  refine ByteArray.ext ?_
  rw [ByteArray.data_extract]
  refine Array.ext' ?_
  simp only [Array.toList_extract, List.extract_eq_take_drop]
  rw [List.take_of_length_le (by omega)]

set_option maxHeartbeats 2000000 in
set_option maxRecDepth 4000 in
theorem l01Cut_any (s : ByteArray) (c : UInt8) (w : World) (hs : s.size ≤ 1048576) :
    Calls Tryd.prog 71 #[.string s, .int .u8 c.toNat] w fun e w' => ∃ a cap, e = .returned (.slice a (cutS c s).length cap) ∧ w'.ownsRow w.heap.size 9 1 (.slice a (cutS c s).length cap) (cutS c s).length ((cutS c s).map SV) ∧ Below w.heap.size w w' := by
  obtain ⟨R, hR⟩ : ∃ R, R = cutS c s := ⟨_, rfl⟩
  rw [← hR]
  have HR := Lib.hid hR
  clear hR
  go_enter Tryd.func71, Tryd.ntmps71
  go_upto_region 4 with fail
  refine wp_at fun W1 hW1 => ?_
  have HO0 := Lib.hid (show W1.ownsRow w.heap.size 9 1 (.slice (some ⟨w.heap.size, 0, none⟩) 0 0) 0 (([] : List ByteArray).map SV) by
    subst hW1
    have h := World.ownsRow_lit (base := w.heap.size) (e := 9) (size := 1) w #[] 0 (Nat.le_refl _) (by simp [maxLen]) rfl
    simpa using h)
  have HB0 := Lib.hid (show Below w.heap.size w W1 by subst hW1; exact (Below.refl _ _).alloc (Nat.le_refl _) _)
  clear hW1
  go_loopw [5, 6, 7] (fun ov fv iv wr => ∃ (f i k : Nat) (O : List ByteArray) (a : Option Addr) (cap : Nat), ov = .slice a k cap ∧ fv = .int .i64 f ∧ iv = .int .i64 i ∧ f ≤ i ∧ i ≤ s.size + 1 ∧ k ≤ i ∧ Hid (O.length = k) ∧ Hid ((i = s.size + 1 ∧ R = O) ∨ (i ≤ s.size ∧ R = O ++ (partsC c (s.data.toList.drop f)).map mkB ∧ NoC c s f i)) ∧ Hid (wr.ownsRow w.heap.size 9 1 (.slice a k cap) k (O.map SV)) ∧ Hid (Below w.heap.size w wr)) (fun _ _ iv _ => s.size + 1 - (intOf iv).toNat)
  case atStart => exact ⟨0, 0, 0, [], _, _, rfl, rfl, rfl, Nat.le_refl _, Nat.zero_le _, Nat.le_refl _, Lib.hid rfl, Lib.hid (.inr ⟨Nat.zero_le _, by rw [HR.out]; rfl, by intro j hj h0 h1; omega⟩), HO0, HB0⟩
  case round =>
    clear HO0 HB0
    obtain ⟨f, i, k, O, a, cap, rfl, rfl, rfl, hfi, his, hki, HK, HD, HO, HB⟩ := hrel
    have hszw := HB.out.size
    by_cases hlt : i ≤ s.size
    · have hltI : (i : Int) ≤ (s.size : Int) := by omega
      have HD1 := Lib.hid (show R = O ++ (partsC c (s.data.toList.drop f)).map mkB ∧ NoC c s f i by
        rcases HD.out with ⟨h, _⟩ | ⟨_, h⟩
        · omega
        · exact h)
      have hfI : (f : Int) ≤ (i : Int) := by omega
      by_cases hin : i < s.size
      · have hne : ((i : Int) == (s.size : Int)) = false := by simp; omega
        by_cases hc : s[i] = c
        · have HST := Lib.hid (parts_step HD1.out.2 hfi hin hc)
          have hq : ((s[i].toNat : Int) == (c.toNat : Int)) = true := by rw [hc]; simp
          obtain ⟨x, hx⟩ : ∃ x, x = s.extract f i := ⟨_, rfl⟩
          rw [← hx] at HST
          have HX := Lib.hid hx
          clear hc hx
          go_wp2_with (at_builtin; rw [← HX.out]; refine app_strs rfl _ _ rfl w.heap.size _ k O rfl (owns_below HO.out ((Below.refl _ _).alloc (Nat.le_refl _) _) (Nat.le_refl _)) _ [x] rfl (slcS_one wr x _ rfl) (k + 1) (O ++ [x]) rfl rfl (by omega) (by simp; omega) ?_; intro a' cap' w' r1 r2 _)
          go_roundw
          case rel => exact ⟨i + 1, i + 1, k + 1, O ++ [x], a', cap', by go_num, by go_num, by go_num, Nat.le_refl _, by omega, by omega, Lib.hid (by rw [List.length_append, HK.out]; rfl), Lib.hid (.inr ⟨by omega, by rw [HD1.out.1, HST.out, List.append_assoc]; rfl, fun j hj h0 h1 => by omega⟩), Lib.hid r1, Lib.hid ((HB.out.alloc hszw _).trans r2)⟩
          case measure => simp [intOf]; omega
        · have hq : ((s[i].toNat : Int) == (c.toNat : Int)) = false := by
            simp only [beq_eq_false_iff_ne, ne_eq]
            intro h
            exact hc (UInt8.toNat_inj.1 (by omega))
          have HNC := Lib.hid hc
          clear hc
          go_wp2_with fail
          go_roundw
          case rel =>
            refine ⟨f, i + 1, k, O, a, cap, by go_num, by go_num, by go_num, by omega, by omega, by omega, HK, Lib.hid (.inr ⟨by omega, HD1.out.1, fun j hj h0 h1 => ?_⟩), HO, HB⟩
            by_cases hji : j < i
            · exact HD1.out.2 j hj h0 hji
            · obtain rfl : j = i := by omega
              exact HNC.out
          case measure => simp [intOf]; omega
      · have hie : i = s.size := by omega
        have hne : ((i : Int) == (s.size : Int)) = true := by simp; omega
        have HST := Lib.hid (show (partsC c (s.data.toList.drop f)).map mkB = [s.extract f i] by have := parts_last (c := c) (s := s) (f := f) (by have := HD1.out.2; rw [hie] at this; exact this) (by omega); rw [this, hie])
        obtain ⟨x, hx⟩ : ∃ x, x = s.extract f i := ⟨_, rfl⟩
        rw [← hx] at HST
        have HX := Lib.hid hx
        have HIE := Lib.hid hie
        clear hx hie
        go_wp2_with (at_builtin; rw [← HX.out]; refine app_strs rfl _ _ rfl w.heap.size _ k O rfl (owns_below HO.out ((Below.refl _ _).alloc (Nat.le_refl _) _) (Nat.le_refl _)) _ [x] rfl (slcS_one wr x _ rfl) (k + 1) (O ++ [x]) rfl rfl (by omega) (by simp; omega) ?_; intro a' cap' w' r1 r2 _)
        go_roundw
        case rel => exact ⟨i + 1, i + 1, k + 1, O ++ [x], a', cap', by go_num, by go_num, by go_num, Nat.le_refl _, by omega, by omega, Lib.hid (by rw [List.length_append, HK.out]; rfl), Lib.hid (.inl ⟨by rw [HIE.out], by rw [HD1.out.1, HST.out]⟩), Lib.hid r1, Lib.hid ((HB.out.alloc hszw _).trans r2)⟩
        case measure => simp [intOf]; omega
    · have hltI : ¬ (i : Int) ≤ (s.size : Int) := by omega
      have HE := Lib.hid (show R = O by
        rcases HD.out with ⟨_, h⟩ | ⟨h, _⟩
        · exact h
        · omega)
      go_wp2_with fail
      go_ret
      have hk2 : R.length = k := by rw [HE.out, HK.out]
      exact ⟨a, cap, by rw [hk2]; rfl, by rw [hk2, HE.out]; exact HO.out, HB.out⟩

theorem cutS_lines (s : ByteArray) : (linesL s.data.toList).map mkB = (cutS 10 s).dropLast := by unfold linesL cutS; rw [List.map_dropLast]
theorem cutS_pos (c : UInt8) (s : ByteArray) : 1 ≤ (cutS c s).length := by
  unfold cutS
  rw [List.length_map]
  have := List.length_pos_iff.2 (partsC_ne c s.data.toList)
  omega
theorem cutS_cnt (c : UInt8) (s : ByteArray) : (cutS c s).length ≤ s.size + 1 := by
  unfold cutS
  rw [List.length_map]
  have := partsC_cnt c s.data.toList
  rw [Array.length_toList] at this
  exact this

end Go.Proofs.YtggpbekclegfoaaDoor

namespace Go.Proofs.YtggpbekclegfoaaDoor
open Go.RowKit

def HasMax (w : World) : Prop := ∃ m, w.cell? ⟨2, 0, none⟩ = some (.int .i64 m)
theorem HasMax.up {w w' : World} {B : Nat} (h : HasMax w) (hb : Below B w w') (hB : w.heap.size ≤ B) : HasMax w' := by
  obtain ⟨m, hm⟩ := h
  exact ⟨m, held_of hb hm hB⟩
end Go.Proofs.YtggpbekclegfoaaDoor

namespace Go.Proofs.YtggpbekclegfoaaDoor
open Go.RowKit

theorem splitK_parts (c : UInt8) : ∀ (k : Nat) (l : List UInt8), l.length ≤ k → Lib.splitK [c] 0 (Lib.count l [c]) l = partsC c l
  | 0, l, h => by
    obtain rfl : l = [] := List.length_eq_zero_iff.1 (by omega)
    rw [Lib.count_miss (index_none (by simp))]
    rfl
  | k + 1, l, h => by
    by_cases hc : c ∈ l
    · obtain ⟨l1, l2, rfl, h1⟩ := List.eq_append_cons_of_mem hc
      have hi := index_hit (l2 := l2) h1
      rw [Lib.count_hit (by simp) hi, Nat.add_comm, partsC_hit h1]
      simp only [Lib.splitK]
      rw [hi, if_neg (by simp)]
      have h2 : (l1 ++ c :: l2).drop (l1.length + [c].length) = l2 := by simp
      have h3 : (((l1.length : Nat) : Int)).toNat = l1.length := by omega
      rw [h3, h2, splitK_parts c k l2 (by simp at h; omega)]
      simp
    · rw [Lib.count_miss (index_none hc), partsC_none hc]
      rfl
theorem splitB_cutS (c : UInt8) (s : ByteArray) : Lib.splitB ⟨#[c]⟩ 0 (Lib.countB s ⟨#[c]⟩) s = cutS c s := by
  have h := Lib.splitB_data ⟨#[c]⟩ 0 (Lib.countB s ⟨#[c]⟩) s
  have h2 : Lib.countB s ⟨#[c]⟩ = Lib.count s.data.toList [c] := rfl
  rw [h2] at h ⊢
  rw [show (⟨#[c]⟩ : ByteArray).data.toList = [c] from rfl, splitK_parts c _ _ (Nat.le_refl _)] at h
  unfold cutS
  rw [← h, List.map_map]
  conv => lhs; rw [← List.map_id (Lib.splitB _ _ _ _)]
  refine List.map_congr_left fun x _ => ?_
  exact (mkB_of x).symm

theorem last_nil (c : UInt8) : ∀ (k : Nat) (l : List UInt8), l.length ≤ k → l ≠ [] → ((partsC c l).getLast? = some [] ↔ l.getLast? = some c)
  | 0, l, h, hn => absurd (List.length_eq_zero_iff.1 (by omega)) hn
  | k + 1, l, h, hn => by
    by_cases hc : c ∈ l
    · obtain ⟨l1, l2, rfl, h1⟩ := List.eq_append_cons_of_mem hc
      rw [partsC_hit h1]
      have hp : (l1 :: partsC c l2).getLast? = (partsC c l2).getLast? := by
        obtain ⟨x, y, hxy⟩ : ∃ x y, partsC c l2 = x :: y := by
          cases hh : partsC c l2 with
          | nil => exact absurd hh (partsC_ne _ _)
          | cons x y => exact ⟨x, y, rfl⟩
        rw [hxy, List.getLast?_cons_cons]
      rw [hp]
      cases l2 with
      | nil => simp [partsC]
      | cons x y =>
        rw [last_nil c k (x :: y) (by simp at h ⊢; omega) (by simp)]
        simp [List.getLast?_append, List.getLast?_cons_cons]
    · rw [partsC_none hc]
      constructor
      · intro h0; simp at h0; exact absurd h0 hn
      · intro h0; exact absurd (List.mem_of_getLast? h0) hc

def lastP (t : ByteArray) : ByteArray := (cutS 10 t).getD ((cutS 10 t).length - 1) E0
theorem lastP_last (t : ByteArray) : ∃ e, (partsC 10 t.data.toList).getLast? = some e ∧ lastP t = mkB e := by
  obtain ⟨e, he⟩ : ∃ e, (partsC 10 t.data.toList).getLast? = some e := by
    cases h : (partsC 10 t.data.toList).getLast? with
    | none => exact absurd (List.getLast?_eq_none_iff.1 h) (partsC_ne _ _)
    | some e => exact ⟨e, rfl⟩
  refine ⟨e, he, ?_⟩
  rw [List.getLast?_eq_getElem?] at he
  unfold lastP cutS
  rw [List.length_map, List.getD_eq_getElem?_getD, List.getElem?_map, he]
  rfl
theorem lastP_empty : (lastP ⟨#[]⟩).size = 0 := by decide +kernel
theorem lastP_size {t : ByteArray} (h : 0 < t.size) : (lastP t).size = 0 ↔ t[t.size - 1] = 10 := by
  obtain ⟨e, he, hl⟩ := lastP_last t
  have hlen : t.data.toList.length = t.size := by rw [Array.length_toList]; rfl
  have hn : t.data.toList ≠ [] := by intro h0; rw [h0] at hlen; simp at hlen; omega
  have h1 := last_nil 10 _ t.data.toList (Nat.le_refl _) hn
  have h2 : t.data.toList.getLast? = some t[t.size - 1] := by
    rw [List.getLast?_eq_getElem?, hlen, List.getElem?_eq_getElem (by omega), Array.getElem_toList]
    rfl
  rw [he, h2] at h1
  rw [hl, mkB_size]
  constructor
  · intro h0
    have : e = [] := List.length_eq_zero_iff.1 h0
    rw [this] at h1
    simpa using h1.1 rfl
  · intro h0
    rw [h0] at h1
    have := h1.2 rfl
    simp at this
    rw [this]; rfl

def coOk (t : ByteArray) : Bool := decide (t.size ≤ 16000) && decide ((lastP t).size = 0)
def isBad (s : ByteArray) : Bool := (s.toList == [110, 111]) || (s.toList == [119, 104, 97, 116])
def badK (L : List ByteArray) : Nat → Nat
  | 0 => 0
  | k + 1 => badK L k + (if isBad (L.getD k E0) = true then 1 else 0)
theorem badK_le (L : List ByteArray) : ∀ k, badK L k ≤ k
  | 0 => Nat.le_refl _
  | k + 1 => by have := badK_le L k; simp only [badK]; split <;> omega
def linesS (t : ByteArray) : List ByteArray := (linesL t.data.toList).map mkB
def coBad (t : ByteArray) : Nat := if coOk t = true then badK (linesS t) (linesS t).length else 0
def coGood (t : ByteArray) : Nat := if coOk t = true then (linesS t).length - badK (linesS t) (linesS t).length else 0
theorem coNo {t : ByteArray} (h : coOk t = false) : coBad t = 0 ∧ coGood t = 0 := by unfold coBad coGood; rw [h]; exact ⟨rfl, rfl⟩
theorem coYes {t : ByteArray} (h : coOk t = true) : coBad t = badK (linesS t) (linesS t).length ∧ coGood t = (linesS t).length - badK (linesS t) (linesS t).length := by unfold coBad coGood; rw [if_pos h, if_pos h]; exact ⟨rfl, rfl⟩
theorem linesS_cnt (t : ByteArray) : (linesS t).length = (cutS 10 t).length - 1 := by unfold linesS; rw [cutS_lines, List.length_dropLast]
theorem linesS_le (t : ByteArray) : (linesS t).length ≤ t.size := by have := linesS_cnt t; have := cutS_cnt 10 t; omega

end Go.Proofs.YtggpbekclegfoaaDoor

namespace Go.Proofs.YtggpbekclegfoaaDoor
open Go.RowKit

theorem partsC_le (c : UInt8) : ∀ (l : List UInt8), ∀ p ∈ partsC c l, p.length ≤ l.length
  | [], p, h => by
    simp only [partsC, List.mem_singleton] at h
    subst h
    exact Nat.le_refl _
  | b :: r, p, h => by
    have ih := partsC_le c r
    simp only [partsC] at h
    split at h
    · rw [List.mem_cons] at h
      rcases h with rfl | h
      · simp
      · have := ih p h
        simp only [List.length_cons]; omega
    · split at h
      · rw [List.mem_singleton] at h
        subst h
        simp
      · rename_i x t he
        rw [he] at ih
        rw [List.mem_cons] at h
        rcases h with rfl | h
        · have := ih x (by simp)
          simp only [List.length_cons]; omega
        · have := ih p (by simp [h])
          simp only [List.length_cons]; omega
theorem cutS_le (c : UInt8) (s : ByteArray) : ∀ x ∈ cutS c s, x.size ≤ s.size := by
  intro x hx
  obtain ⟨p, hp, rfl⟩ := List.mem_map.1 hx
  have := partsC_le c s.data.toList p hp
  rw [mkB_size]
  rw [Array.length_toList] at this
  exact this

theorem SplitC_any (c : UInt8) (t : ByteArray) (w : World) (h : HasMax w) (ht : t.size ≤ 1048576) :
    Calls Tryd.prog 43 #[.string t, .string ⟨#[c]⟩] w fun e w' => ∃ a cap, e = .returned (.slice a (cutS c t).length cap) ∧ RdSs w' (.slice a (cutS c t).length cap) (cutS c t) ∧ Below w.heap.size w w' := by
  obtain ⟨m, hm⟩ := h
  refine (Tryd.strings_Split t ⟨#[c]⟩ m w (by omega) hm (by show 1 ≤ 1; omega)).mono ?_
  rintro e w' ⟨rfl, rfl⟩
  have h1 := Lib.splitB_all ⟨#[c]⟩ (by show 1 ≤ 1; omega) 0 _ t rfl
  rw [splitB_cutS] at h1 ⊢
  rw [← h1]
  have hc := cutS_cnt c t
  refine ⟨_, _, rfl, ⟨.inr ⟨⟨w.heap.size, 0, none⟩, (cutS c t).length, by rw [List.length_map], by rw [List.length_map]; exact Nat.le_refl _, by unfold maxLen; omega, fun i u hi => ?_⟩, fun s hs => ?_⟩, (Below.refl _ _).alloc (Nat.le_refl _) _⟩
  · have h1 : (w.alloc (.cells ((cutS c t).map SV).toArray 9)).heap[w.heap.size]? = some (.cells ((cutS c t).map SV).toArray 9) := heap_alloc_new w _
    have h2 : ((⟨w.heap.size, 0, none⟩ : Addr).add i) = ⟨w.heap.size, i, none⟩ := by unfold Addr.add; split <;> simp_all
    rw [h2]
    show (w.alloc (.cells ((cutS c t).map SV).toArray 9)).cell? _ = _
    simp only [World.cell?, h1]
    simpa using hi
  · have := cutS_le c t s hs
    unfold maxLen; omega

/-! ### Lists with a text -/
/-- The words between commas; none of 'none'. -/
def wsOf (s : ByteArray) : List ByteArray := if s = noneS then [] else cutS 44 s
def listOk (s : ByteArray) : Bool := (wsOf s).all valOk && decide ((wsOf s).length ≤ 64)
def valsK (s : ByteArray) (k : Nat) : List Int := ((wsOf s).take k).map valN
def rdV (s : ByteArray) : List Int := if listOk s = true then (wsOf s).map valN else []
theorem wsOf_le (s : ByteArray) : ∀ x ∈ wsOf s, x.size ≤ s.size := by
  unfold wsOf
  split
  · intro x h; cases h
  · exact cutS_le 44 s
theorem wsOf_cnt (s : ByteArray) : (wsOf s).length ≤ s.size + 1 := by
  unfold wsOf
  split
  · simp
  · exact cutS_cnt 44 s
theorem wsOf_at {s : ByteArray} {k : Nat} (h : k < (wsOf s).length) : ((wsOf s).getD k E0).size ≤ s.size := by
  rw [List.getD_eq_getElem?_getD, List.getElem?_eq_getElem h]
  exact wsOf_le s _ (List.getElem_mem _)
theorem valsK_succ (s : ByteArray) (k : Nat) (h : k < (wsOf s).length) : valsK s (k + 1) = valsK s k ++ [valN ((wsOf s).getD k E0)] := by
  unfold valsK
  rw [List.take_add_one, List.map_append, List.getElem?_eq_getElem h, List.getD_eq_getElem?_getD, List.getElem?_eq_getElem h]
  rfl
theorem valsK_len (s : ByteArray) (k : Nat) (h : k ≤ (wsOf s).length) : (valsK s k).length = k := by
  unfold valsK
  rw [List.length_map, List.length_take]
  omega
theorem valsK_all (s : ByteArray) : valsK s (wsOf s).length = (wsOf s).map valN := by unfold valsK; rw [List.take_length]
theorem listOk_bad {s : ByteArray} {k : Nat} (hk : k < (wsOf s).length) (h : valOk ((wsOf s).getD k E0) = false) : listOk s = false := by
  unfold listOk
  rw [Bool.and_eq_false_iff]
  left
  rw [List.all_eq_false]
  refine ⟨(wsOf s)[k], List.getElem_mem _, ?_⟩
  rw [List.getD_eq_getElem?_getD, List.getElem?_eq_getElem hk] at h
  simp only [Option.getD_some] at h
  rw [h]; simp
theorem listOk_all {s : ByteArray} (h : ∀ j, j < (wsOf s).length → valOk ((wsOf s).getD j E0) = true) : listOk s = decide ((wsOf s).length ≤ 64) := by
  unfold listOk
  rw [show (wsOf s).all valOk = true by
    rw [List.all_eq_true]
    intro x hx
    obtain ⟨i, hi, rfl⟩ := List.mem_iff_getElem.1 hx
    have := h i hi
    rwa [List.getD_eq_getElem?_getD, List.getElem?_eq_getElem hi] at this, Bool.true_and]
theorem listOk_long {s : ByteArray} (h : 64 < (wsOf s).length) : listOk s = false := by
  unfold listOk
  rw [show decide ((wsOf s).length ≤ 64) = false from decide_eq_false (by omega), Bool.and_false]
theorem valOk_in {s : ByteArray} (h : valOk s = true) : -1000000000000000 ≤ valN s ∧ valN s ≤ 1000000000000000 := by
  unfold valOk at h
  cases hv : valB s with
  | none => rw [hv] at h; cases h
  | some v =>
    have h1 := valB_some hv
    rw [(valN_some hv).1]
    exact ⟨h1.1, h1.2.1⟩
theorem vals_allIn {s : ByteArray} (h : ∀ j, j < (wsOf s).length → valOk ((wsOf s).getD j E0) = true) : allIn (-1000000000000000) 1000000000000000 ((wsOf s).map valN) = true := by
  refine allIn_true fun i hi => ?_
  rw [List.length_map] at hi
  have h1 := valOk_in (h i hi)
  rw [List.getD_eq_getElem?_getD, List.getElem?_eq_getElem hi] at h1
  rw [List.getD_eq_getElem?_getD, List.getElem?_map, List.getElem?_eq_getElem hi, inB_iff]
  exact h1
theorem wsOf_none : wsOf noneS = [] := by unfold wsOf; rw [if_pos rfl]
theorem wsOf_not {s : ByteArray} (h : s ≠ noneS) : wsOf s = cutS 44 s := by unfold wsOf; rw [if_neg h]
theorem rdV_ok {s : ByteArray} (h : listOk s = true) : rdV s = (wsOf s).map valN := by unfold rdV; rw [if_pos h]
theorem rdV_no {s : ByteArray} (h : listOk s = false) : rdV s = [] := by unfold rdV; rw [h]; rfl
theorem rdV_len {s : ByteArray} : (rdV s).length ≤ 64 := by
  unfold rdV
  split
  · rename_i h
    unfold listOk at h
    rw [Bool.and_eq_true, decide_eq_true_iff] at h
    rw [List.length_map]
    exact h.2
  · simp

end Go.Proofs.YtggpbekclegfoaaDoor

namespace Go.Proofs.YtggpbekclegfoaaDoor
open Go.RowKit

def fltOk (s : ByteArray) : Bool := (wsOf s).all hexOk && decide ((wsOf s).length ≤ 256)
def fltsK (s : ByteArray) (k : Nat) : List Nat := ((wsOf s).take k).map fun x => accH x 8
def fltV (s : ByteArray) : List Nat := if fltOk s = true then (wsOf s).map (fun x => accH x 8) else []
theorem fltsK_succ (s : ByteArray) (k : Nat) (h : k < (wsOf s).length) : fltsK s (k + 1) = fltsK s k ++ [accH ((wsOf s).getD k E0) 8] := by
  unfold fltsK
  rw [List.take_add_one, List.map_append, List.getElem?_eq_getElem h, List.getD_eq_getElem?_getD, List.getElem?_eq_getElem h]
  rfl
theorem fltsK_all (s : ByteArray) : fltsK s (wsOf s).length = (wsOf s).map (fun x => accH x 8) := by unfold fltsK; rw [List.take_length]
theorem fltOk_bad {s : ByteArray} {k : Nat} (hk : k < (wsOf s).length) (h : hexOk ((wsOf s).getD k E0) = false) : fltOk s = false := by
  unfold fltOk
  rw [Bool.and_eq_false_iff]
  left
  rw [List.all_eq_false]
  refine ⟨(wsOf s)[k], List.getElem_mem _, ?_⟩
  rw [List.getD_eq_getElem?_getD, List.getElem?_eq_getElem hk] at h
  simp only [Option.getD_some] at h
  rw [h]; simp
theorem fltOk_all {s : ByteArray} (h : ∀ j, j < (wsOf s).length → hexOk ((wsOf s).getD j E0) = true) (hl : (wsOf s).length ≤ 256) : fltOk s = true := by
  unfold fltOk
  rw [show (wsOf s).all hexOk = true by
    rw [List.all_eq_true]
    intro x hx
    obtain ⟨i, hi, rfl⟩ := List.mem_iff_getElem.1 hx
    have := h i hi
    rwa [List.getD_eq_getElem?_getD, List.getElem?_eq_getElem hi] at this, Bool.true_and]
  exact decide_eq_true hl
theorem fltOk_long {s : ByteArray} (h : 256 < (wsOf s).length) : fltOk s = false := by
  unfold fltOk
  rw [show decide ((wsOf s).length ≤ 256) = false from decide_eq_false (by omega), Bool.and_false]
theorem fltV_ok {s : ByteArray} (h : fltOk s = true) : fltV s = (wsOf s).map (fun x => accH x 8) := by unfold fltV; rw [if_pos h]
theorem fltV_no {s : ByteArray} (h : fltOk s = false) : fltV s = [] := by unfold fltV; rw [h]; rfl
theorem fltV_len (s : ByteArray) : (fltV s).length ≤ 256 := by
  unfold fltV
  split
  · rename_i h
    unfold fltOk at h
    rw [Bool.and_eq_true, decide_eq_true_iff] at h
    rw [List.length_map]
    exact h.2
  · simp
theorem fltV_bits (s : ByteArray) : ∀ z ∈ fltV s, z < 4294967296 := by
  intro z hz
  unfold fltV at hz
  split at hz
  · obtain ⟨x, _, rfl⟩ := List.mem_map.1 hz
    exact accH_lt x 8
  · cases hz

end Go.Proofs.YtggpbekclegfoaaDoor

namespace Go.Proofs.YtggpbekclegfoaaDoor
open Go.RowKit

theorem wp_app_ints {w : World} {o : Oper} {a : Act} {K : Act → World → Prop} {Q : Exit → Act → World → Prop} (s x : Operand)
    (ho : o.op = .call { callee := .builtin .append, args := #[s, x], argTypes := #[52, 52] })
    (base : Nat) (v : Value) (n : Nat) (xs : List Int) (hs : a.eval s = v) (hown : w.ownsRow base 2 1 v n (xs.map I64))
    (sv : Value) (news : List Int) (hx : a.eval x = sv) (hsv : Slc w sv (news.map I64)) (m : Nat) (ys : List Int) (hm : m = n + news.length) (hys : ys = xs ++ news) (hlen : m ≤ 17592186044416) (hbase : base ≤ w.heap.size)
    (h : ∀ a' cap' w', w'.ownsRow base 2 1 (.slice a' m cap') m (ys.map I64) → Below base w w' → w.grownBy w' v.ownBlock → (Value.slice a' m cap' = .slice none 0 0 ↔ v = .slice none 0 0 ∧ news = []) → K (a.put o.dst (.slice a' m cap')) w') :
    o.wp Tryd.prog a w K Q := by
  obtain ⟨i0, hi, hz0, hz1, hz2⟩ := info_parts Tryd.infoI64
  subst hm hys
  have hk : ∀ v' w', w'.ownsRow base 2 1 v' (n + news.length) (xs.map I64 ++ news.map I64) → w.grownBy w' v.ownBlock → (v' = .slice none 0 0 ↔ v = .slice none 0 0 ∧ news = []) → K (a.put o.dst v') w' := by
    intro v' w' h1 h2 h3
    have h1' : w'.ownsRow base 2 1 v' (n + news.length) ((xs ++ news).map I64) := by simpa using h1
    obtain ⟨a', cap', rfl⟩ := owns_shape h1'
    exact h a' cap' w' h1' (below_grown hown hbase h2) h2 h3
  rcases hsv with ⟨rfl, hnil⟩ | ⟨ad, cap, rfl, hcl, hcm, hc⟩
  · have hn : news = [] := by simpa using hnil
    subst hn
    have hrun := run_append_owned_none (P := Tryd.prog) (w := w) base 52 o.type 2 i0 1 Tryd.underlying52 hi v n (xs.map I64) hown
    unfold Oper.wp
    simp [execOp, ho, resolve, invoke, builtin, hs, hx, hrun, Result.andThen]
    exact hk v w (by simpa using hown) (World.grownBy.refl _ _) (by simp)
  · refine wp_append_own w s x 52 ho base 2 i0 (.int .i64 0) 1 8 Tryd.underlying52 hi hz0 hz1 hz2 rfl (by decide) v n (xs.map I64) hs hown ad (news.map I64).length cap (news.map I64) hx (by simp) hc (i64_one news) (by simp [maxLen]; omega) (by simp; omega) hbase ?_
    intro v' w' h2 h3 h4
    exact hk v' w' (by simpa using h2) h3 (by rw [h4]; simp)

theorem step_app_own {w : World} {ops : Array Oper} {o : Oper} {a : Act} {K : Act → World → Prop} {Q : Exit → Act → World → Prop} {E : Prop} (hgd : o.guard = none) (s x : Operand)
    (ho : o.op = .call { callee := .builtin .append, args := #[s, x], argTypes := #[52, 52] })
    (base : Nat) (ad : Addr) (n cap : Nat) (xs : List Int) (hs : a.eval s = .slice (some ad) n cap) (hown : w.ownsRow base 2 1 (.slice (some ad) n cap) n (xs.map I64))
    (sv : Value) (news : List Int) (hx : a.eval x = sv) (hsv : Slc w sv (news.map I64)) (m : Nat) (ys : List Int) (hm : m = n + news.length) (hys : ys = xs ++ news) (hlen : m ≤ 17592186044416) (hbase : base ≤ w.heap.size)
    (h : ∀ g cap' w', w'.ownsRow base 2 1 (.slice (some ⟨g, 0, none⟩) m cap') m (ys.map I64) → Below base w w' → w.grownBy w' (Value.slice (some ad) n cap).ownBlock → K (a.put o.dst (.slice (some ⟨g, 0, none⟩) m cap')) w') :
    if Region.wanted o (yielded ops a.tmps) = true then Oper.wp Tryd.prog o a w K Q else E := by
  have hw : Region.wanted o (yielded ops a.tmps) = true := by simp [Region.wanted, hgd]
  rw [if_pos hw]
  refine wp_app_ints s x ho base _ n xs hs hown sv news hx hsv m ys hm hys hlen hbase ?_
  intro a' cap' w' h1 h2 h3 h4
  obtain ⟨g, c, e, _⟩ := owns_some h1 (by intro e; have := h4.1 e; simp at this)
  simp only [Value.slice.injEq, true_and] at e
  obtain ⟨rfl, rfl⟩ := e
  exact h g _ w' h1 h2 h3

/-- A slice in one block reads on where this block is kept. -/
theorem slc_keptB {S : Nat → Prop} {w w' : World} {ad : Addr} {n cap : Nat} {vs : List Value} (h : Slc w (.slice (some ad) n cap) vs) (hk : Kept S w w') (hs : ¬ S ad.block) : Slc w' (.slice (some ad) n cap) vs := by
  rcases h with ⟨e1, _⟩ | ⟨ad2, cap2, e1, h1, h2, hc⟩
  · simp at e1
  · simp only [Value.slice.injEq, Option.some.injEq] at e1
    obtain ⟨rfl, rfl, rfl⟩ := e1
    refine .inr ⟨ad, cap, rfl, h1, h2, fun i u hi => ?_⟩
    have h0 := hc i u hi
    rw [hk.cell (cell_lt h0) (by rw [addr_add_block]; exact hs)]
    exact h0

/-- A new row of one stays as it is behind an append to another. -/
theorem slc_grown {w w' : World} {ad : Addr} {n cap : Nat} {vs : List Value} {row : Option Nat} (h : Slc w (.slice (some ad) n cap) vs) (hg : w.grownBy w' row) (hne : row ≠ some ad.block) : Slc w' (.slice (some ad) n cap) vs :=
  slc_keptB (S := fun k => row = some k) h ⟨hg.os, hg.tape, hg.output, hg.size, fun k hk hn => hg.block k hk fun e => hn e.symm⟩ hne

theorem slc_drew {w : World} {v : Value} {vs : List Value} (h : Slc w v vs) : Slc w.drew v vs := h
theorem slc_alloc {w : World} {v : Value} {vs : List Value} (h : Slc w v vs) (o : Obj) : Slc (w.alloc o) v vs := h.below ((Below.refl _ _).alloc (Nat.le_refl _) _) (Nat.le_refl _)

theorem slc_oneB (w : World) (z : Int) (b : Nat) (hb : b = w.heap.size) : Slc (w.alloc (.cells #[.int .i64 z] 2)) (.slice (some ⟨b, 0, none⟩) 1 1) ([z].map I64) := by subst hb; exact slc_one w z

theorem owns_emptyB (w : World) (b : Nat) (hb : b = w.heap.size) : (w.alloc (.cells #[] 2)).ownsRow w.heap.size 2 1 (.slice (some ⟨b, 0, none⟩) 0 0) 0 (([] : List Int).map I64) := by subst hb; exact owns_empty w
theorem owns_drew {w : World} {base : Nat} {e : TypeId} {v : Value} {n : Nat} {vs : List Value} (h : w.ownsRow base e 1 v n vs) : w.drew.ownsRow base e 1 v n vs := h

end Go.Proofs.YtggpbekclegfoaaDoor

namespace Go.Proofs.YtggpbekclegfoaaDoor
open Go.RowKit

theorem f32_one (xs : List Nat) : ∀ u ∈ xs.map F32, u.oneCell' = true := by
  intro u hu
  obtain ⟨x, _, rfl⟩ := List.mem_map.1 hu
  rfl

theorem app_flts {w : World} {ops : Array Oper} {rest : List Oper} {o : Oper} {a : Act} {Q : Exit → Act → World → Prop} (hgd : o.guard = none) (s x : Operand)
    (ho : o.op = .call { callee := .builtin .append, args := #[s, x], argTypes := #[30, 30] })
    (base : Nat) (v : Value) (n : Nat) (xs : List Nat) (hs : a.eval s = v) (hown : w.ownsRow base 83 1 v n (xs.map F32))
    (sv : Value) (news : List Nat) (hx : a.eval x = sv) (hsv : Slc w sv (news.map F32)) (m : Nat) (ys : List Nat) (hm : m = n + news.length) (hys : ys = xs ++ news) (hlen : m ≤ 17592186044416) (hbase : base ≤ w.heap.size)
    (h : ∀ a' cap' w', w'.ownsRow base 83 1 (.slice a' m cap') m (ys.map F32) → Below base w w' → w.grownBy w' v.ownBlock → (Value.slice a' m cap' = .slice none 0 0 ↔ v = .slice none 0 0 ∧ news = []) → wpList Tryd.prog ops Q rest (a.put o.dst (.slice a' m cap')) w') :
    wpList Tryd.prog ops Q (o :: rest) a w := by
  obtain ⟨i0, hi, hz0, hz1, hz2⟩ := info_parts Tryd.infoF32
  subst hm hys
  refine wpList_append_slc hgd s x 30 ho base 83 i0 (.float .f32 0) 4 Tryd.underlying30 hi hz0 hz1 hz2 rfl v n (xs.map F32) hs hown sv (news.map F32) hx hsv (f32_one news) (by simp [maxLen]; omega) (by simp; omega) hbase ?_
  intro v' w' h1 h2 h3
  have h1' : w'.ownsRow base 83 1 v' (n + news.length) ((xs ++ news).map F32) := by simpa using h1
  obtain ⟨a', cap', rfl⟩ := owns_shape h1'
  exact h a' cap' w' h1' (below_grown hown hbase h2) h2 (by simpa using h3)

theorem wp_app_flts {w : World} {o : Oper} {a : Act} {K : Act → World → Prop} {Q : Exit → Act → World → Prop} (s x : Operand)
    (ho : o.op = .call { callee := .builtin .append, args := #[s, x], argTypes := #[30, 30] })
    (base : Nat) (v : Value) (n : Nat) (xs : List Nat) (hs : a.eval s = v) (hown : w.ownsRow base 83 1 v n (xs.map F32))
    (sv : Value) (news : List Nat) (hx : a.eval x = sv) (hsv : Slc w sv (news.map F32)) (m : Nat) (ys : List Nat) (hm : m = n + news.length) (hys : ys = xs ++ news) (hlen : m ≤ 17592186044416) (hbase : base ≤ w.heap.size)
    (h : ∀ a' cap' w', w'.ownsRow base 83 1 (.slice a' m cap') m (ys.map F32) → Below base w w' → w.grownBy w' v.ownBlock → (Value.slice a' m cap' = .slice none 0 0 ↔ v = .slice none 0 0 ∧ news = []) → K (a.put o.dst (.slice a' m cap')) w') :
    o.wp Tryd.prog a w K Q := by
  obtain ⟨i0, hi, hz0, hz1, hz2⟩ := info_parts Tryd.infoF32
  subst hm hys
  have hk : ∀ v' w', w'.ownsRow base 83 1 v' (n + news.length) (xs.map F32 ++ news.map F32) → w.grownBy w' v.ownBlock → (v' = .slice none 0 0 ↔ v = .slice none 0 0 ∧ news = []) → K (a.put o.dst v') w' := by
    intro v' w' h1 h2 h3
    have h1' : w'.ownsRow base 83 1 v' (n + news.length) ((xs ++ news).map F32) := by simpa using h1
    obtain ⟨a', cap', rfl⟩ := owns_shape h1'
    exact h a' cap' w' h1' (below_grown hown hbase h2) h2 h3
  rcases hsv with ⟨rfl, hnil⟩ | ⟨ad, cap, rfl, hcl, hcm, hc⟩
  · have hn : news = [] := by simpa using hnil
    subst hn
    have hrun := run_append_owned_none (P := Tryd.prog) (w := w) base 30 o.type 83 i0 1 Tryd.underlying30 hi v n (xs.map F32) hown
    unfold Oper.wp
    simp [execOp, ho, resolve, invoke, builtin, hs, hx, hrun, Result.andThen]
    exact hk v w (by simpa using hown) (World.grownBy.refl _ _) (by simp)
  · refine wp_append_own w s x 30 ho base 83 i0 (.float .f32 0) 1 4 Tryd.underlying30 hi hz0 hz1 hz2 rfl (by decide) v n (xs.map F32) hs hown ad (news.map F32).length cap (news.map F32) hx (by simp) hc (f32_one news) (by simp [maxLen]; omega) (by simp; omega) hbase ?_
    intro v' w' h2 h3 h4
    exact hk v' w' (by simpa using h2) h3 (by rw [h4]; simp)

theorem step_app_flts {w : World} {ops : Array Oper} {o : Oper} {a : Act} {K : Act → World → Prop} {Q : Exit → Act → World → Prop} {E : Prop} (hgd : o.guard = none) (s x : Operand)
    (ho : o.op = .call { callee := .builtin .append, args := #[s, x], argTypes := #[30, 30] })
    (base : Nat) (v : Value) (n : Nat) (xs : List Nat) (hs : a.eval s = v) (hown : w.ownsRow base 83 1 v n (xs.map F32))
    (sv : Value) (news : List Nat) (hx : a.eval x = sv) (hsv : Slc w sv (news.map F32)) (m : Nat) (ys : List Nat) (hm : m = n + news.length) (hys : ys = xs ++ news) (hlen : m ≤ 17592186044416) (hbase : base ≤ w.heap.size)
    (h : ∀ a' cap' w', w'.ownsRow base 83 1 (.slice a' m cap') m (ys.map F32) → Below base w w' → w.grownBy w' v.ownBlock → K (a.put o.dst (.slice a' m cap')) w') :
    if Region.wanted o (yielded ops a.tmps) = true then Oper.wp Tryd.prog o a w K Q else E := by
  have hw : Region.wanted o (yielded ops a.tmps) = true := by simp [Region.wanted, hgd]
  rw [if_pos hw]
  exact wp_app_flts s x ho base v n xs hs hown sv news hx hsv m ys hm hys hlen hbase fun a' cap' w' h1 h2 h3 _ => h a' cap' w' h1 h2 h3

theorem slcF_one (w : World) (z : Nat) : Slc (w.alloc (.cells #[.float .f32 z] 83)) (.slice (some ⟨w.heap.size, 0, none⟩) 1 1) ([z].map F32) := by
  have h := World.ownsRow_lit (base := w.heap.size) (e := 83) (size := 1) w #[.float .f32 z] 1 (Nat.le_refl _) (by simp [maxLen]) rfl
  exact slc_of_owns h
theorem ownsF_empty (w : World) : (w.alloc (.cells #[] 83)).ownsRow w.heap.size 83 1 (.slice (some ⟨w.heap.size, 0, none⟩) 0 0) 0 (([] : List Nat).map F32) :=
  World.ownsRow_lit (base := w.heap.size) (e := 83) (size := 1) w #[] 0 (Nat.le_refl _) (by simp [maxLen]) rfl

end Go.Proofs.YtggpbekclegfoaaDoor

namespace Go.Proofs.YtggpbekclegfoaaDoor
open Go.RowKit

theorem drewN_one (w : World) : w.drew = w.drewN 1 := rfl
theorem ord00 : FloatKind.f32.format.order 0 0 = some .eq := by decide +kernel

theorem IsFinite_any (x : Nat) (w : World) : Calls Tryd.prog 81 #[.float .f32 x] w fun e w' => e = .returned (.bool (fin32 x)) ∧ ∃ m, w' = w.drewN m := by
  by_cases h : fin32 x = true
  · have hs := fun (W : World) => run_sub_some (P := Tryd.prog) 83 x x 0 (sub_fin h) W
    have h0 := ord00
    rw [h]
    clear h
    go_enter Tryd.func81, Tryd.ntmps81
    go_wp2_with fail
    go_ret
    exact ⟨rfl, 0, rfl⟩
  · rw [Bool.not_eq_true] at h
    have hs := fun (W : World) => run_sub_none (P := Tryd.prog) 83 x x (sub_not h) W
    have h0 := fun (W : World) => (show FloatKind.f32.format.order (tape32 (.nanBits .f32 x x) W) 0 = none from order_nanL _ _ _ (tape32_nan x x W))
    rw [h]
    clear h
    go_enter Tryd.func81, Tryd.ntmps81
    go_wp2_with fail
    go_ret
    exact ⟨rfl, 1, rfl⟩
theorem l01Finite_any (x : Nat) (w : World) : Calls Tryd.prog 79 #[.float .f32 x] w fun e w' => e = .returned (.bool (fin32 x)) ∧ ∃ m, w' = w.drewN m := by
  by_cases h : fin32 x = true
  · have hs := fun (W : World) => run_sub_some (P := Tryd.prog) 83 x x 0 (sub_fin h) W
    have h0 := ord00
    rw [h]
    clear h
    go_enter Tryd.func79, Tryd.ntmps79
    go_wp2_with fail
    go_ret
    exact ⟨rfl, 0, rfl⟩
  · rw [Bool.not_eq_true] at h
    have hs := fun (W : World) => run_sub_none (P := Tryd.prog) 83 x x (sub_not h) W
    have h0 := fun (W : World) => (show FloatKind.f32.format.order (tape32 (.nanBits .f32 x x) W) 0 = none from order_nanL _ _ _ (tape32_nan x x W))
    rw [h]
    clear h
    go_enter Tryd.func79, Tryd.ntmps79
    go_wp2_with fail
    go_ret
    exact ⟨rfl, 1, rfl⟩

def allFin (xs : List Nat) : Bool := xs.all fin32
theorem allFin_yes {xs : List Nat} (h : ∀ i, i < xs.length → fin32 (xs.getD i 0) = true) : allFin xs = true := by
  unfold allFin; rw [List.all_eq_true]
  intro x hx
  obtain ⟨i, hi, rfl⟩ := List.getElem_of_mem hx
  have := h i hi
  simpa [hi] using this
theorem allFin_no {xs : List Nat} {i : Nat} (hi : i < xs.length) (h : fin32 (xs.getD i 0) = false) : allFin xs = false := by
  unfold allFin; rw [List.all_eq_false]
  refine ⟨xs[i], List.getElem_mem hi, ?_⟩
  have : xs.getD i 0 = xs[i] := by simp [hi]
  rw [this] at h
  simp [h]
theorem allFin_get {xs : List Nat} (h : allFin xs = true) {i : Nat} (hi : i < xs.length) : fin32 (xs.getD i 0) = true := by
  unfold allFin at h
  rw [List.all_eq_true] at h
  have : xs.getD i 0 = xs[i] := by simp [hi]
  rw [this]
  exact h _ (List.getElem_mem hi)

theorem drewN_then {w a b : World} (h1 : ∃ m, a = w.drewN m) (h2 : ∃ m, b = a.drewN m) : ∃ m, b = w.drewN m := by
  obtain ⟨m, rfl⟩ := h1
  obtain ⟨n, rfl⟩ := h2
  exact ⟨m + n, World.drewN_drewN _ _ _⟩
theorem rdF_drew {w a : World} {v : Value} {xs : List Nat} (h : RdF w v xs) (hd : ∃ m, a = w.drewN m) : RdF a v xs := by
  obtain ⟨m, rfl⟩ := hd
  exact h.drewN m

set_option maxHeartbeats 400000 in
theorem areFinite_any (v : Value) (xs : List Nat) (w : World) (h : RdF w v xs) :
    Calls Tryd.prog 60 #[v] w fun e w' => e = .returned (.bool (allFin xs)) ∧ ∃ m, w' = w.drewN m := by
  obtain ⟨a, c, rfl⟩ := h.shape
  have hl := h.len
  unfold maxLen at hl
  have HS := Lib.hid h
  clear h
  go_enter Tryd.func60, Tryd.ntmps60
  go_wp2_with fail
  go_loopw [7] (fun i wr => ∃ k : Nat, i = .int .i64 k ∧ k ≤ xs.length ∧ Hid (∀ j, j < k → fin32 (xs.getD j 0) = true) ∧ Hid (∃ m, wr = w.drewN m)) (fun i _ => xs.length - (intOf i).toNat)
  case atStart => exact ⟨0, rfl, Nat.zero_le _, fun j hj => by omega, 0, rfl⟩
  case round =>
    obtain ⟨k, rfl, hk, hall, hd⟩ := hrel
    by_cases hlt : k < xs.length
    · obtain ⟨b, off, rfl, _, hc⟩ := (rdF_drew HS.out hd.out).at hlt
      obtain ⟨x, hx⟩ : ∃ x, x = xs.getD k 0 := ⟨_, rfl⟩
      rw [← hx] at hc
      have HX := Lib.hid hx
      clear hx
      go_wp2_with fail
      refine (IsFinite_any x wr).mono ?_
      rintro e w1 ⟨rfl, hd1⟩
      have HD := Lib.hid (drewN_then hd.out hd1)
      clear hd1 hc
      by_cases hf : fin32 x = true
      · rw [hf]
        go_wp2_with fail
        go_roundw
        case rel => exact ⟨k + 1, by go_num, by omega, fun j hj => by
          rcases Nat.lt_succ_iff_lt_or_eq.1 hj with h | rfl
          · exact hall.out j h
          · rw [← HX.out]; exact hf, HD.out⟩
        case measure => simp [intOf]; omega
      · rw [Bool.not_eq_true] at hf
        rw [hf]
        have HF := Lib.hid (allFin_no hlt (by rw [← HX.out]; exact hf))
        go_wp2_with fail
        go_ret
        exact ⟨by rw [HF.out]; rfl, HD.out⟩
    · obtain rfl : k = xs.length := by omega
      go_wp2_with fail
      go_ret
      exact ⟨by rw [allFin_yes hall.out]; rfl, hd.out⟩

set_option maxHeartbeats 400000 in
theorem l02Finite_any (v : Value) (xs : List Nat) (w : World) (h : RdF w v xs) :
    Calls Tryd.prog 56 #[v] w fun e w' => e = .returned (.bool (allFin xs)) ∧ ∃ m, w' = w.drewN m := by
  obtain ⟨a, c, rfl⟩ := h.shape
  have hl := h.len
  unfold maxLen at hl
  have HS := Lib.hid h
  clear h
  go_enter Tryd.func56, Tryd.ntmps56
  go_wp2_with fail
  go_loopw [3] (fun i wr => ∃ k : Nat, i = .int .i64 k ∧ k ≤ xs.length ∧ Hid (∀ j, j < k → fin32 (xs.getD j 0) = true) ∧ Hid (∃ m, wr = w.drewN m)) (fun i _ => xs.length - (intOf i).toNat)
  case atStart => exact ⟨0, rfl, Nat.zero_le _, fun j hj => by omega, 0, rfl⟩
  case round =>
    obtain ⟨k, rfl, hk, hall, hd⟩ := hrel
    by_cases hlt : k < xs.length
    · obtain ⟨b, off, rfl, _, hc⟩ := (rdF_drew HS.out hd.out).at hlt
      obtain ⟨x, hx⟩ : ∃ x, x = xs.getD k 0 := ⟨_, rfl⟩
      rw [← hx] at hc
      have HX := Lib.hid hx
      clear hx
      go_wp2_with fail
      refine (l01Finite_any x wr).mono ?_
      rintro e w1 ⟨rfl, hd1⟩
      have HD := Lib.hid (drewN_then hd.out hd1)
      clear hd1 hc
      by_cases hf : fin32 x = true
      · rw [hf]
        go_wp2_with fail
        go_roundw
        case rel => exact ⟨k + 1, by go_num, by omega, fun j hj => by
          rcases Nat.lt_succ_iff_lt_or_eq.1 hj with h | rfl
          · exact hall.out j h
          · rw [← HX.out]; exact hf, HD.out⟩
        case measure => simp [intOf]; omega
      · rw [Bool.not_eq_true] at hf
        rw [hf]
        have HF := Lib.hid (allFin_no hlt (by rw [← HX.out]; exact hf))
        go_wp2_with fail
        go_ret
        exact ⟨by rw [HF.out]; rfl, HD.out⟩
    · obtain rfl : k = xs.length := by omega
      go_wp2_with fail
      go_ret
      exact ⟨by rw [allFin_yes hall.out]; rfl, hd.out⟩

theorem areFinite_qs (v : Value) (xs : List Nat) (w : World) (n : Nat) (h : RdF w v xs) :
    Calls Tryd.prog 60 #[v] (w.drewN n) fun e w'' => e = .returned (.bool (allFin xs)) ∧ ∃ m, w'' = w.drewN m := by
  refine (areFinite_any v xs _ (h.drewN n)).mono ?_
  rintro e w' ⟨rfl, hd⟩
  exact ⟨rfl, drewN_then ⟨n, rfl⟩ hd⟩

/-- At least nothing. -/
def geq0 (x : Nat) : Bool := FloatKind.f32.format.order x 0 == some .gt || FloatKind.f32.format.order x 0 == some .eq
def least (x : Nat) : Bool := fin32 x && geq0 x
theorem lt_geq {x : Nat} (h : fin32 x = true) : (FloatKind.f32.format.order x 0 == some .lt) = !geq0 x := by
  unfold geq0
  have e : ∃ o, FloatKind.f32.format.order x 0 = some o := by
    unfold fin32 at h
    show ∃ o, Ieee.Format.order Ieee.single x 0 = some o
    unfold Ieee.Format.order
    have e0 : Ieee.single.read 0 = .number false 0 (-149) := by decide +kernel
    rw [e0]
    cases hr : Ieee.single.read x with
    | nan a b => rw [hr] at h; simp at h
    | infinity s => rw [hr] at h; simp at h
    | number s m e => exact ⟨_, rfl⟩
  obtain ⟨o, ho⟩ := e
  rw [ho]
  cases o <;> rfl

theorem l02Least_any (x : Nat) (w : World) : Calls Tryd.prog 57 #[.float .f32 x] w fun e w' => e = .returned (.bool (least x)) ∧ ∃ m, w' = w.drewN m := by
  by_cases h : fin32 x = true
  · have hg : least x = geq0 x := by unfold least; rw [h]; rfl
    have HG := Lib.hid hg
    have H := Lib.hid h
    clear hg h
    go_enter Tryd.func57, Tryd.ntmps57
    go_wp2_with fail
    refine (l01Finite_any x w).mono ?_
    rintro e w1 ⟨rfl, hd1⟩
    rw [H.out]
    go_wp2_with fail
    go_ret
    exact ⟨by rw [HG.out]; rfl, hd1⟩
  · rw [Bool.not_eq_true] at h
    have HG := Lib.hid (show least x = false by unfold least; rw [h]; rfl)
    have H := Lib.hid h
    clear h
    go_enter Tryd.func57, Tryd.ntmps57
    go_wp2_with fail
    refine (l01Finite_any x w).mono ?_
    rintro e w1 ⟨rfl, hd1⟩
    rw [H.out]
    go_wp2_with fail
    go_ret
    exact ⟨by rw [HG.out]; rfl, hd1⟩

end Go.Proofs.YtggpbekclegfoaaDoor
