/-
  FnJournal: texts joined: JrnM, DrwM, Pop, Dom, Rising, DomO, TightM, Digits, Src, R8, JobDraw.
-/
import Derived.Laws.BitsAllLaws
import Derived.Deep.Cut
import Derived.Maps.AppendAt
import Derived.Deep.RegionLaw
import Derived.Deep.CutRange
import Derived.Lib.AppendZeros
import Derived.Test.YtgkbbpajkbkgnaaGreatDoorMFnJournalAB
import Derived.Test.YtgkbbpajkbkgnaaGreatDoorMFnJournalAC
import Derived.Test.YtgkbbpajkbkgnaaGreatDoorMFnJournalAE
import Derived.Test.YtgkbbpajkbkgnaaGreatDoorMFnJournalAF
import Derived.Test.YtgkbbpajkbkgnaaGreatDoorMFnJournalAI
import Derived.Test.YtgkbbpajkbkgnaaGreatDoorMFnJournalAN
import Derived.Test.YtgkbbpajkbkgnaaGreatDoorMFnJournalAO
import Derived.Test.YtgkbbpajkbkgnaaGreatDoorMFnJournalBB
set_option linter.unusedVariables false
set_option linter.unusedSimpArgs false
namespace Go.Proofs.YtgkbbpajkbkgnaaGreatDoor
open Go.RowKit
def jrB : Nat → List ByteArray → List UInt8
  | _, [] => []
  | c, l :: r => (Lib.decDigits (chkN c l) ++ 32 :: l.data.toList) ++ 10 :: jrB (chkN c l) r
def foldC (c : Nat) (ls : List ByteArray) : Nat := ls.foldl chkN c
theorem jrB_snoc : ∀ (ls : List ByteArray) (c : Nat) (l : ByteArray), jrB c (ls ++ [l]) = jrB c ls ++ ((Lib.decDigits (chkN (foldC c ls) l) ++ 32 :: l.data.toList) ++ [10])
  | [], c, l => rfl
  | x :: r, c, l => by
    show (Lib.decDigits (chkN c x) ++ 32 :: x.data.toList) ++ 10 :: jrB (chkN c x) (r ++ [l]) = (Lib.decDigits (chkN c x) ++ 32 :: x.data.toList) ++ 10 :: jrB (chkN c x) r ++ _
    rw [jrB_snoc r]
    simp only [List.append_assoc, List.cons_append]
    rfl
theorem jrC_fold (ls : List ByteArray) : ∀ k, k ≤ ls.length → jrC ls k = foldC 0 (ls.take k)
  | 0, _ => rfl
  | k + 1, h => by
    show chkN (jrC ls k) (ls.getD k E0) = _
    rw [jrC_fold ls k (by omega), List.take_add_one, List.getElem?_eq_getElem (by omega), List.getD_eq_getElem?_getD, List.getElem?_eq_getElem (by omega)]
    unfold foldC
    rw [List.foldl_append]
    rfl
theorem ent_list (c : Nat) (l : ByteArray) : (ent c l).data.toList = (Lib.decDigits c ++ 32 :: l.data.toList) ++ [10] := by
  unfold ent
  simp only [ByteArray.data_append, Array.toList_append]
  show ((Lib.decDigits c).toArray.toList ++ [32] ++ l.data.toList) ++ [10] = _
  simp
theorem jrS_list (ls : List ByteArray) : ∀ k, k ≤ ls.length → (jrS ls k).data.toList = jrB 0 (ls.take k)
  | 0, _ => rfl
  | k + 1, h => by
    show (jrS ls k ++ ent (jrC ls (k + 1)) (ls.getD k E0)).data.toList = _
    rw [ByteArray.data_append, Array.toList_append, jrS_list ls k (by omega), ent_list]
    show jrB 0 (ls.take k) ++ (Lib.decDigits (chkN (jrC ls k) (ls.getD k E0)) ++ 32 :: (ls.getD k E0).data.toList ++ [10]) = _
    rw [jrC_fold ls k (by omega), List.take_add_one, List.getElem?_eq_getElem (by omega), List.getD_eq_getElem?_getD, List.getElem?_eq_getElem (by omega)]
    exact (jrB_snoc _ _ _).symm
theorem jrS_all (ls : List ByteArray) : (jrS ls ls.length).data.toList = jrB 0 ls := by
  rw [jrS_list ls ls.length (Nat.le_refl _), List.take_length]
theorem size_list (s : ByteArray) : s.size = s.data.toList.length := by rw [Array.length_toList]; rfl
theorem jrS_len (ls : List ByteArray) : (jrS ls ls.length).size = (jrB 0 ls).length := by rw [size_list, jrS_all]
theorem not32_dec (n : Nat) : (32 : UInt8) ∉ Lib.decDigits n := fun h => by
  have := decDigits_mem n 32 h
  have e : (32 : UInt8).toNat = 32 := rfl
  omega
theorem not10_dec (n : Nat) : (10 : UInt8) ∉ Lib.decDigits n := fun h => by
  have := decDigits_mem n 10 h
  have e : (10 : UInt8).toNat = 10 := rfl
  omega
theorem not10_ent {c : Nat} {l : ByteArray} (h : (10 : UInt8) ∉ l.data.toList) : (10 : UInt8) ∉ Lib.decDigits c ++ 32 :: l.data.toList := by
  rw [List.mem_append, List.mem_cons]
  rintro (h1 | h1 | h1)
  · exact not10_dec c h1
  · cases h1
  · exact h h1
theorem take_line (e T : List UInt8) (m : Nat) : (e ++ 10 :: T).take (e.length + 1 + m) = e ++ 10 :: T.take m := by
  rw [List.take_append, List.take_of_length_le (l := e) (show e.length ≤ e.length + 1 + m by omega), show e.length + 1 + m - e.length = m + 1 by omega, List.take_succ_cons]
theorem rec_own : ∀ (n : Nat) (T : List UInt8) (c : Nat), T.length ≤ n → jrB c (recJ c (linesL T)).1 = T.take (recJ c (linesL T)).2 ∧ (recJ c (linesL T)).2 ≤ T.length ∧ NoNL (recJ c (linesL T)).1
  | n, T, c, hn => by
    by_cases hm : (10 : UInt8) ∈ T
    · obtain ⟨e, T', rfl, he⟩ := List.eq_append_cons_of_mem hm
      cases n with
      | zero => simp at hn
      | succ n =>
        have hT' : T'.length ≤ n := by simp at hn; omega
        rw [linesL_hit he]
        by_cases h32 : (32 : UInt8) ∈ e
        · obtain ⟨w, l, rfl, hw⟩ := List.eq_append_cons_of_mem h32
          by_cases hd : mkB w = decS (chkN c (mkB l))
          · rw [recJ_good _ hw hd]
            obtain ⟨i1, i2, i3⟩ := rec_own n T' (chkN c (mkB l)) hT'
            have hwl : w = Lib.decDigits (chkN c (mkB l)) := by
              have := congrArg (fun s : ByteArray => s.data.toList) hd
              rw [mkB_list] at this
              rw [this]; simp [decS]
            refine ⟨?_, ?_, ?_⟩
            · show (Lib.decDigits (chkN c (mkB l)) ++ 32 :: (mkB l).data.toList) ++ 10 :: jrB (chkN c (mkB l)) _ = _
              rw [i1, mkB_list, ← hwl]
              exact (take_line _ _ _).symm
            · simp only [List.length_append, List.length_cons]; omega
            · intro x hx
              rw [List.mem_cons] at hx
              rcases hx with rfl | hx
              · rw [mkB_list]
                exact fun hl => he (by rw [List.mem_append, List.mem_cons]; exact .inr (.inr hl))
              · exact i3 x hx
          · rw [recJ_bad _ hw hd]
            exact ⟨rfl, Nat.zero_le _, fun x hx => by cases hx⟩
        · rw [recJ_no _ h32]
          exact ⟨rfl, Nat.zero_le _, fun x hx => by cases hx⟩
    · rw [linesL_none hm]
      exact ⟨rfl, Nat.zero_le _, fun x hx => by cases hx⟩
theorem rec_cut : ∀ (ls : List ByteArray) (c at' : Nat), NoNL ls → ∃ k, k ≤ ls.length ∧ (recJ c (linesL ((jrB c ls).take at'))).1 = ls.take k ∧ (k < ls.length → at' < (jrB c (ls.take (k + 1))).length)
  | [], c, a, _ => ⟨0, Nat.le_refl _, by
    show (recJ c (linesL (([] : List UInt8).take a))).1 = []
    rw [List.take_nil]
    rfl, fun h => by cases h⟩
  | l :: r, c, a, h => by
    have hl := h l (by simp)
    obtain ⟨E, hE⟩ : ∃ E, E = Lib.decDigits (chkN c l) ++ 32 :: l.data.toList := ⟨_, rfl⟩
    have hEn : (10 : UInt8) ∉ E := by rw [hE]; exact not10_ent hl
    have e1 : jrB c (l :: r) = E ++ 10 :: jrB (chkN c l) r := by rw [hE]; rfl
    rw [e1]
    by_cases ha : E.length < a
    · obtain ⟨k, hk, h1, h2⟩ := rec_cut r (chkN c l) (a - (E.length + 1)) (fun x hx => h x (by simp [hx]))
      refine ⟨k + 1, by simpa using hk, ?_, ?_⟩
      · have ht : (E ++ 10 :: jrB (chkN c l) r).take a = E ++ 10 :: (jrB (chkN c l) r).take (a - (E.length + 1)) := by
          have := take_line E (jrB (chkN c l) r) (a - (E.length + 1))
          rw [show E.length + 1 + (a - (E.length + 1)) = a by omega] at this
          exact this
        rw [ht, linesL_hit hEn, hE]
        have hm : mkB l.data.toList = l := mkB_of l
        rw [recJ_good (c := c) (w := Lib.decDigits (chkN c l)) (l := l.data.toList) _ (not32_dec _) (by rw [hm]; rfl), hm, ← hE, h1]
        rfl
      · intro hk2
        have := h2 (by simpa using hk2)
        show a < (jrB c (l :: r.take (k + 1))).length
        have e2 : jrB c (l :: r.take (k + 1)) = E ++ 10 :: jrB (chkN c l) (r.take (k + 1)) := by rw [hE]; rfl
        rw [e2, List.length_append, List.length_cons]
        omega
    · refine ⟨0, Nat.zero_le _, ?_, fun _ => ?_⟩
      · have ht : (10 : UInt8) ∉ (E ++ 10 :: jrB (chkN c l) r).take a := by
          rw [List.take_append_of_le_length (by omega)]
          exact fun hm => hEn (List.mem_of_mem_take hm)
        rw [linesL_none ht]
        rfl
      · show a < (jrB c (l :: r.take 0)).length
        have e2 : jrB c (l :: r.take 0) = E ++ 10 :: [] := by rw [hE]; rfl
        rw [e2, List.length_append, List.length_cons]
        omega
theorem jrB_mono : ∀ (ls : List ByteArray) (c k : Nat), (jrB c (ls.take k)).length ≤ (jrB c ls).length
  | [], c, k => by simp
  | l :: r, c, 0 => by simp [jrB]
  | l :: r, c, k + 1 => by
    have := jrB_mono r (chkN c l) k
    simp only [List.take_succ_cons, jrB, List.length_append, List.length_cons]
    omega
theorem rec_all {ls : List ByteArray} (h : NoNL ls) : (recJ 0 (linesL (jrB 0 ls))).1 = ls ∧ (recJ 0 (linesL (jrB 0 ls))).2 = (jrB 0 ls).length := by
  obtain ⟨k, hk, h1, h2⟩ := rec_cut ls 0 (jrB 0 ls).length h
  rw [List.take_length] at h1
  have hkl : k = ls.length := by
    rcases Nat.lt_or_ge k ls.length with hlt | hge
    · have := h2 hlt
      have := jrB_mono ls 0 (k + 1)
      omega
    · omega
  rw [hkl, List.take_length] at h1
  refine ⟨h1, ?_⟩
  obtain ⟨g1, g2, _⟩ := rec_own _ (jrB 0 ls) 0 (Nat.le_refl _)
  rw [h1] at g1
  have := congrArg List.length g1
  rw [List.length_take] at this
  omega
theorem nonl_iff {ls : List ByteArray} : NoNL ls ↔ noNL ls = true := by
  unfold NoNL noNL hasNL
  rw [List.all_eq_true]
  constructor
  · intro h x hx
    have := h x hx
    rw [← indexByte_mem] at this
    rw [decide_eq_false this]
    rfl
  · intro h x hx hm
    have := h x hx
    rw [← indexByte_mem] at hm
    rw [decide_eq_true hm] at this
    cases this
theorem jr_ok {ls : List ByteArray} (h : NoNL ls) (hs : (jrB 0 ls).length ≤ 16000) : jrOk ls = true ∧ jrR ls = mkB (jrB 0 ls) := by
  have h1 : jrOk ls = true := by
    unfold jrOk
    rw [nonl_iff.1 h, jrS_len, decide_eq_true hs]; rfl
  refine ⟨h1, ?_⟩
  unfold jrR
  rw [if_pos h1, ← jrS_all, mkB_of]
theorem rj_of {t : ByteArray} (h : t.size ≤ 16000) : rjR t = (recJ 0 (linesL t.data.toList)).1 ∧ rjN t = (recJ 0 (linesL t.data.toList)).2 := by
  unfold rjR rjN rjP
  rw [if_pos h, if_pos h]
  exact ⟨rfl, rfl⟩
theorem rj_own {t : ByteArray} (h : t.size ≤ 16000) : jrOk (rjR t) = true ∧ rjN t ≤ t.size ∧ jrR (rjR t) = mkB (t.data.toList.take (rjN t)) ∧ NoNL (rjR t) := by
  obtain ⟨a, b⟩ := rj_of h
  obtain ⟨g1, g2, g3⟩ := rec_own _ t.data.toList 0 (Nat.le_refl _)
  rw [← a, ← b] at g1
  rw [← b] at g2
  rw [← a] at g3
  have hl : (jrB 0 (rjR t)).length ≤ 16000 := by
    rw [g1, List.length_take, ← size_list]; omega
  obtain ⟨j1, j2⟩ := jr_ok g3 hl
  exact ⟨j1, by rw [size_list]; exact g2, by rw [j2, g1], g3⟩
theorem rj_whole {ls : List ByteArray} (h : NoNL ls) (hs : (jrB 0 ls).length ≤ 16000) : rjR (mkB (jrB 0 ls)) = ls ∧ rjN (mkB (jrB 0 ls)) = (jrB 0 ls).length := by
  obtain ⟨a, b⟩ := rj_of (t := mkB (jrB 0 ls)) (by rw [mkB_size]; exact hs)
  rw [mkB_list] at a b
  obtain ⟨c, d⟩ := rec_all h
  exact ⟨a.trans c, b.trans d⟩
theorem rj_cut {ls : List ByteArray} (h : NoNL ls) (hs : (jrB 0 ls).length ≤ 16000) {a : Nat} (ha : a ≤ (jrB 0 ls).length) :
    ∃ k, k ≤ ls.length ∧ rjR (mkB ((jrB 0 ls).take a)) = ls.take k ∧ rjN (mkB ((jrB 0 ls).take a)) ≤ a ∧ jrOk (ls.take k) = true ∧ jrR (ls.take k) = mkB ((jrB 0 ls).take (rjN (mkB ((jrB 0 ls).take a)))) ∧ (k < ls.length → jrOk (ls.take (k + 1)) = true ∧ a < (jrR (ls.take (k + 1))).size) := by
  have hz : (mkB ((jrB 0 ls).take a)).size ≤ 16000 := by rw [mkB_size, List.length_take]; omega
  obtain ⟨p, q⟩ := rj_of hz
  rw [mkB_list] at p q
  obtain ⟨k, hk, h1, h2⟩ := rec_cut ls 0 a h
  obtain ⟨o1, o2, o3, o4⟩ := rj_own hz
  have hk1 : rjR (mkB ((jrB 0 ls).take a)) = ls.take k := p.trans h1
  rw [mkB_size, List.length_take] at o2
  refine ⟨k, hk, hk1, by omega, by rw [← hk1]; exact o1, ?_, fun hlt => ?_⟩
  · rw [← hk1, o3, mkB_list, List.take_take, Nat.min_eq_left (by omega)]
  · have hn : NoNL (ls.take (k + 1)) := fun x hx => h x (List.mem_of_mem_take hx)
    have hm := jrB_mono ls 0 (k + 1)
    obtain ⟨j1, j2⟩ := jr_ok hn (by omega)
    refine ⟨j1, ?_⟩
    rw [j2, mkB_size]
    exact h2 hlt
end Go.Proofs.YtgkbbpajkbkgnaaGreatDoor

namespace Go.Proofs.YtgkbbpajkbkgnaaGreatDoor
open Go.RowKit
def hD (d : Int) : Nat := Ieee.single.nearest (decide (d < 0)) d.natAbs (-1)
def uptoD (lo : Int) (n : Nat) : List Int := (List.range n).map fun i : Nat => lo + (i : Int)
theorem mem_uptoD {lo : Int} {n : Nat} {d : Int} (h0 : lo ≤ d) (h1 : d < lo + n) : d ∈ uptoD lo n := List.mem_map.2 ⟨(d - lo).toNat, List.mem_range.2 (by omega), by omega⟩
theorem tD_is : (uptoD (-3) 20).all (fun d => Ieee.single.div (floatOfInt .f32 d) 1073741824 == some (hD d)) = true := by decide +kernel
theorem tD_fin : (uptoD (-3) 20).all (fun d => fin32 (hD d) && decide (hD d < 4294967296)) = true := by decide +kernel
theorem tD_least : (uptoD 0 17).all (fun d => least (hD d)) = true := by decide +kernel
theorem dD_is {d : Int} (h0 : -3 ≤ d) (h1 : d ≤ 16) : Ieee.single.div (floatOfInt .f32 d) 1073741824 = some (hD d) := by
  have := List.all_eq_true.1 tD_is d (mem_uptoD h0 (by omega))
  rwa [beq_iff_eq] at this
theorem dD_fin {d : Int} (h0 : -3 ≤ d) (h1 : d ≤ 16) : fin32 (hD d) = true ∧ hD d < 4294967296 := by
  have := List.all_eq_true.1 tD_fin d (mem_uptoD h0 (by omega))
  rwa [Bool.and_eq_true, decide_eq_true_iff] at this
theorem dD_least {d : Int} (h0 : 0 ≤ d) (h1 : d ≤ 16) : least (hD d) = true := List.all_eq_true.1 tD_least d (mem_uptoD h0 (by omega))
theorem hD_zero : hD 0 = 0 := by decide +kernel
def Halves (lo hi : Int) (xs : List Nat) : Prop := ∀ x ∈ xs, ∃ d, lo ≤ d ∧ d ≤ hi ∧ x = hD d
theorem Halves.at {lo hi : Int} {xs : List Nat} (h : Halves lo hi xs) (h0 : lo ≤ 0) (h1 : 0 ≤ hi) (j : Nat) : ∃ d, lo ≤ d ∧ d ≤ hi ∧ xs.getD j 0 = hD d := by
  rcases Nat.lt_or_ge j xs.length with hj | hj
  · rw [List.getD_eq_getElem?_getD, List.getElem?_eq_getElem hj]
    exact h _ (List.getElem_mem hj)
  · exact ⟨0, h0, h1, by rw [List.getD_eq_getElem?_getD, List.getElem?_eq_none hj, hD_zero]; rfl⟩
theorem Halves.fin {lo hi : Int} {xs : List Nat} (h : Halves lo hi xs) (h0 : -3 ≤ lo) (h1 : hi ≤ 16) : allFin xs = true ∧ BitsF xs := by
  constructor
  · unfold allFin
    rw [List.all_eq_true]
    intro x hx
    obtain ⟨d, a, b, rfl⟩ := h x hx
    exact (dD_fin (by omega) (by omega)).1
  · intro x hx
    obtain ⟨d, a, b, rfl⟩ := h x hx
    exact (dD_fin (by omega) (by omega)).2
theorem Halves.snoc {lo hi : Int} {xs : List Nat} (h : Halves lo hi xs) {d : Int} (h0 : lo ≤ d) (h1 : d ≤ hi) : Halves lo hi (xs ++ [hD d]) := by
  intro x hx
  rcases List.mem_append.1 hx with hx | hx
  · exact h x hx
  · exact ⟨d, h0, h1, List.mem_singleton.1 hx⟩
theorem Halves.nil {lo hi : Int} : Halves lo hi [] := fun x hx => by cases hx
structure HalfR (r : RowsD) : Prop where
  v1 : 1 ≤ r.vars
  v4 : r.vars ≤ 4
  b1 : 1 ≤ r.bnds.length
  b4 : r.bnds.length ≤ 4
  gl : (r.gains.length : Int) = r.vars
  nl : (r.nums.length : Int) = r.vars * r.bnds.length
  hn : Halves (-3) 7 r.nums
  hb : Halves 0 16 r.bnds
  hg : Halves (-3) 7 r.gains
theorem half_valid {r : RowsD} (h : HalfR r) : validR r = true ∧ BitsR r := by
  obtain ⟨n1, n2⟩ := h.hn.fin (by omega) (by omega)
  obtain ⟨g1, g2⟩ := h.hg.fin (by omega) (by omega)
  obtain ⟨_, b2⟩ := h.hb.fin (by omega) (by omega)
  have := h.v4; have := h.b4; have := h.v1; have := h.b1
  refine ⟨validR_true ⟨h.v1, by omega, h.b1, by omega, h.gl, h.nl, n1, g1, fun i hi => ?_⟩, n2, b2, g2⟩
  obtain ⟨d, p, q, e⟩ := h.hb.at (by omega) (by omega) i
  rw [e]
  exact dD_least p q
end Go.Proofs.YtgkbbpajkbkgnaaGreatDoor

namespace Go.Proofs.YtgkbbpajkbkgnaaGreatDoor
def s1 (b : Nat) : Nat := ((b >>> 1) &&& 85) + (b &&& 85)
def s2 (b : Nat) : Nat := ((b >>> 2) &&& 51) + (b &&& 51)
def t2 (b : Nat) : Nat := s2 (s1 b)
end Go.Proofs.YtgkbbpajkbkgnaaGreatDoor

namespace Go.Proofs.YtgkbbpajkbkgnaaGreatDoor
open Go.RowKit
end Go.Proofs.YtgkbbpajkbkgnaaGreatDoor

namespace Go.Proofs.YtgkbbpajkbkgnaaGreatDoor
open Go.RowKit
end Go.Proofs.YtgkbbpajkbkgnaaGreatDoor

namespace Go.Proofs.YtgkbbpajkbkgnaaGreatDoor
open Go.RowKit
end Go.Proofs.YtgkbbpajkbkgnaaGreatDoor

namespace Go.Proofs.YtgkbbpajkbkgnaaGreatDoor
end Go.Proofs.YtgkbbpajkbkgnaaGreatDoor

namespace Go.Proofs.YtgkbbpajkbkgnaaGreatDoor
open Go.RowKit
theorem and64 (a b : Nat) (ha : a < 18446744073709551616) (hb : b < 18446744073709551616) : bits .and .u64 (a : Int) (b : Int) = ((a &&& b : Nat) : Int) := u64_and_nat a b ha hb
end Go.Proofs.YtgkbbpajkbkgnaaGreatDoor

namespace Go.Proofs.YtgkbbpajkbkgnaaGreatDoor
open Go.RowKit Go.ChangeShapes
def SrcAt (w : World) (sb : Nat) (v : Value) (c : Nat) : Prop := ∃ a S : Nat, a ≤ c ∧ S < 18446744073709551616 ∧ Blk w sb 151 #[v, .int .i64 a, .int .u64 S]
theorem SrcAt.below {w w' : World} {sb : Nat} {v : Value} {c B : Nat} (h : SrcAt w sb v c) (hb : Below B w w') (hB : sb < B) : SrcAt w' sb v c := by
  obtain ⟨a, S, h1, h2, h3⟩ := h; exact ⟨a, S, h1, h2, h3.below hb hB⟩
theorem SrcAt.lt {w : World} {sb : Nat} {v : Value} {c : Nat} (h : SrcAt w sb v c) : sb < w.heap.size := by obtain ⟨a, S, h1, h2, h3⟩ := h; exact h3.lt
theorem SrcAt.mono {w : World} {sb : Nat} {v : Value} {c d : Nat} (h : SrcAt w sb v c) (hc : c ≤ d) : SrcAt w sb v d := by obtain ⟨a, S, h1, h2, h3⟩ := h; exact ⟨a, S, by omega, h2, h3⟩
theorem SrcAt.kept {S : Nat → Prop} {w w' : World} {sb : Nat} {v : Value} {c : Nat} (h : SrcAt w sb v c) (hk : Kept S w w') (hs : ¬ S sb) : SrcAt w' sb v c := by obtain ⟨a, S, h1, h2, h3⟩ := h; exact ⟨a, S, h1, h2, h3.kept hk hs⟩
def DrawE (sb : Nat) (v : Value) (c : Nat) (n : Int) (w : World) (e : Ending) (w' : World) : Prop :=
  ∃ x : Int, 0 ≤ x ∧ x < n ∧ e = .returned (.int .i64 x) ∧ SrcAt w' sb v c ∧ Kept (· = sb) w w'
theorem shr40 (S : Nat) (h : S < 18446744073709551616) : ∃ x : Nat, x < 256 ∧ bits .and .u64 ((S : Int) / 1099511627776) 255 = (x : Int) := by
  refine ⟨(S >>> 40) &&& 255, ?_, ?_⟩
  · rw [show (255 : Nat) = 2 ^ 8 - 1 from rfl, Nat.and_two_pow_sub_one_eq_mod]; omega
  · have a1 : ((S : Int) / (1099511627776 : Int)) = ((S >>> 40 : Nat) : Int) := by rw [Nat.shiftRight_eq_div_pow]; rfl
    have l1 : S >>> 40 < 18446744073709551616 := Nat.lt_of_le_of_lt (Nat.shiftRight_le S 40) h
    rw [a1, show (255 : Int) = ((255 : Nat) : Int) from rfl, and64 _ _ l1 (by decide)]
theorem src_set {w : World} {sb : Nat} {v : Value} {a a' S : Nat} {e : Int} (h : Blk w sb 151 #[v, .int .i64 a, .int .u64 S]) :
    ∃ T : Nat, T < 18446744073709551616 ∧ Blk ((w.setCell ⟨sb, 1, none⟩ (.int .i64 a')).setCell ⟨sb, 2, none⟩ (.int .u64 (IntKind.u64.wrap e))) sb 151 #[v, .int .i64 a', .int .u64 T] := by
  have hw := bounds_u64 (wf_wrap .u64 e)
  refine ⟨(IntKind.u64.wrap e).toNat, by omega, ?_⟩
  have h1 := (h.set 1 (.int .i64 a')).set 2 (.int .u64 (IntKind.u64.wrap e))
  have e1 : (((IntKind.u64.wrap e).toNat : Nat) : Int) = IntKind.u64.wrap e := by omega
  rw [e1]
  simpa using h1
set_option maxHeartbeats 1000000 in
set_option maxRecDepth 4000 in
theorem next_any (W0 : World) (v : Value) (xs : List Int) (hR : RdB W0 v xs) (hw : WfB xs) (sb c : Nat) (w : World) (hb : Below W0.heap.size W0 w) (h : SrcAt w sb v c) (hc : c ≤ 1000000) :
    Calls Tryz.prog 134 #[.pointer (some ⟨sb, 0, none⟩)] w (DrawE sb v (c + 1) 256 w) := by
  obtain ⟨a, S, ha, hS, hk⟩ := h
  obtain ⟨ad, cap, rfl⟩ := hR.shape
  have hlen := hR.len
  unfold maxLen at hlen
  have d0 : w.cell? ⟨sb, 0, none⟩ = some (.slice ad xs.length cap) := hk.cell 0 rfl
  have d1 : w.cell? ⟨sb, 1, none⟩ = some (.int .i64 a) := hk.cell 1 rfl
  have d2 : w.cell? ⟨sb, 2, none⟩ = some (.int .u64 S) := hk.cell 2 rfl
  have f1 := hk.free 1
  have f2 := hk.free 2
  have HK := Lib.hid hk
  have HR := Lib.hid (hR.up hb (Nat.le_refl _))
  have HS := Lib.hid hS
  clear hR hk hb hS
  by_cases hl : a < xs.length
  · obtain ⟨b, off, rfl, _, hcell⟩ := HR.out.at hl
    obtain ⟨hx0, hx1⟩ := hw.at hl
    obtain ⟨x, hx⟩ : ∃ x, x = xs.getD a 0 := ⟨_, rfl⟩
    rw [← hx] at hcell hx0 hx1
    clear hx hw
    have k1 : (a : Int) < (xs.length : Int) := by omega
    have k2 : (a : Int) + 1 ≤ (xs.length : Int) := by omega
    go_enter Tryz.func134, Tryz.ntmps134
    go_wp2_with fail
    go_quiet (fail)
    go_wp2_with fail
    go_quiet (fail)
    go_upto_region 6 with fail
    refine wp_at fun W hW => ?_
    have HW : Hid (∃ T : Nat, T < 18446744073709551616 ∧ Blk W sb 151 #[.slice (some ⟨b, off, none⟩) xs.length cap, .int .i64 ((a + 1 : Nat) : Int), .int .u64 T]) := by subst hW; exact src_set (w := w.drewN _) HK.out
    have HKP := Lib.hid (show Kept (· = sb) w W by subst hW; exact (((Kept.refl (· = sb) w).drewN _).setCell (.inr rfl) _).setCell (.inr rfl) _)
    clear hW d0 d1 d2 f1 f2 hcell
    obtain ⟨T, hT, hB⟩ := HW.out
    have d0 : W.cell? ⟨sb, 0, none⟩ = some (.slice (some ⟨b, off, none⟩) xs.length cap) := hB.cell 0 rfl
    have d1 : W.cell? ⟨sb, 1, none⟩ = some (.int .i64 ((a + 1 : Nat) : Int)) := hB.cell 1 rfl
    have HT := Lib.hid hT
    have HB := Lib.hid hB
    have k3 : ((a + 1 : Nat) : Int) ≤ (xs.length : Int) := by omega
    clear hT hB
    go_quiet (fail)
    go_wp2_with fail
    go_ret
    exact ⟨x, hx0, by omega, rfl, ⟨a + 1, T, by omega, HT.out, HB.out⟩, HKP.out.drewN _⟩
  · have k1 : ¬ (a : Int) < (xs.length : Int) := by omega
    have k2 : (xs.length : Int) ≤ (a : Int) := by omega
    clear hl
    go_enter Tryz.func134, Tryz.ntmps134
    go_wp2_with fail
    go_quiet (fail)
    go_upto_region 6 with fail
    refine wp_at fun W hW => ?_
    have HW : Hid (∃ T : Nat, T < 18446744073709551616 ∧ Blk W sb 151 #[.slice ad xs.length cap, .int .i64 ((a + 1 : Nat) : Int), .int .u64 T]) := by subst hW; exact src_set (w := w.drewN _) HK.out
    have HKP := Lib.hid (show Kept (· = sb) w W by subst hW; exact (((Kept.refl (· = sb) w).drewN _).setCell (.inr rfl) _).setCell (.inr rfl) _)
    clear hW d0 d1 d2 f1 f2
    obtain ⟨T, hT, hB⟩ := HW.out
    have d0 : W.cell? ⟨sb, 0, none⟩ = some (.slice ad xs.length cap) := hB.cell 0 rfl
    have d1 : W.cell? ⟨sb, 1, none⟩ = some (.int .i64 ((a + 1 : Nat) : Int)) := hB.cell 1 rfl
    have d2 : W.cell? ⟨sb, 2, none⟩ = some (.int .u64 T) := hB.cell 2 rfl
    obtain ⟨x, hx1, hx2⟩ := shr40 T hT
    have HT := Lib.hid hT
    have HB := Lib.hid hB
    have k3 : (xs.length : Int) < ((a + 1 : Nat) : Int) := by omega
    clear hT hB
    go_quiet (fail)
    go_wp2_with fail
    go_ret
    exact ⟨x, by omega, by omega, rfl, ⟨a + 1, T, by omega, HT.out, HB.out⟩, HKP.out.drewN _⟩
set_option maxHeartbeats 1000000 in
theorem pick_any (W0 : World) (v : Value) (xs : List Int) (hR : RdB W0 v xs) (hw : WfB xs) (sb c : Nat) (w : World) (hsb : W0.heap.size ≤ sb) (hb : Below W0.heap.size W0 w) (h : SrcAt w sb v c) (hc : c ≤ 999990) (n : Int) (h1 : 1 ≤ n) (h2 : n ≤ 65536) :
    Calls Tryz.prog 81 #[.pointer (some ⟨sb, 0, none⟩), .int .i64 n] w (DrawE sb v (c + 2) n w) := by
  have HR := Lib.hid hR
  have HW := Lib.hid hw
  have HB := Lib.hid hb
  have HS := Lib.hid h
  clear hR hw hb h
  by_cases hn : n ≤ 1
  · go_enter Tryz.func81, Tryz.ntmps81
    go_wp2_with fail
    go_ret
    exact ⟨0, by omega, by omega, rfl, HS.out.mono (by omega), Kept.refl _ _⟩
  by_cases hm : n ≤ 200
  · go_enter Tryz.func81, Tryz.ntmps81
    go_wp2_with fail
    refine (next_any W0 v xs HR.out HW.out sb c w HB.out HS.out (by omega)).mono ?_
    rintro e w1 ⟨x, hx0, hx1, rfl, hs, hk⟩
    have HS1 := Lib.hid hs
    have HK1 := Lib.hid hk
    clear hs hk
    go_wp2_with fail
    go_ret
    exact ⟨x % n, Int.emod_nonneg _ (by omega), Int.emod_lt_of_pos _ (by omega), rfl, HS1.out.mono (by omega), HK1.out⟩
  · go_enter Tryz.func81, Tryz.ntmps81
    go_wp2_with fail
    refine (next_any W0 v xs HR.out HW.out sb c w HB.out HS.out (by omega)).mono ?_
    rintro e w1 ⟨x, hx0, hx1, rfl, hs, hk⟩
    have HS1 := Lib.hid hs
    have HK1 := Lib.hid hk
    have HB1 := Lib.hid (HB.out.trans (hk.toBelow HB.out.size (by intro k h1 h2; omega)))
    clear hs hk
    go_wp2_with fail
    refine (next_any W0 v xs HR.out HW.out sb (c + 1) w1 HB1.out HS1.out (by omega)).mono ?_
    rintro e w2 ⟨y, hy0, hy1, rfl, hs, hk⟩
    have HS2 := Lib.hid hs
    have HK2 := Lib.hid hk
    clear hs hk
    go_wp2_with fail
    go_ret
    exact ⟨(x * 256 + y) % n, Int.emod_nonneg _ (by omega), Int.emod_lt_of_pos _ (by omega), rfl, HS2.out.mono (by omega), HK1.out.trans HK2.out⟩
set_option maxHeartbeats 400000 in
theorem l00From_any (v : Value) (xs : List Int) (w : World) (hR : RdB w v xs) :
    Calls Tryz.prog 44 #[v] w fun e w' => e = .returned (.pointer (some ⟨w.heap.size, 0, none⟩)) ∧ SrcAt w' w.heap.size v 0 ∧ Below w.heap.size w w' := by
  obtain ⟨ad, cap, rfl⟩ := hR.shape
  clear hR
  go_enter Tryz.func44, Tryz.ntmps44
  go_wp2_with fail
  go_ret
  exact ⟨rfl, ⟨0, 0, Nat.le_refl _, by decide, Blk.new _ _ _⟩, by (repeat' first | exact Below.refl _ _ | assumption | refine Below.alloc ?_ ?_ _ | refine Below.setCell ?_ ?_ _ | refine Below.drew ?_ | (simp; done) | (simp; omega))⟩
end Go.Proofs.YtgkbbpajkbkgnaaGreatDoor

namespace Go.Proofs.YtgkbbpajkbkgnaaGreatDoor
open Go.RowKit
def isLong8 (a b : List Int) : Bool := decide (48 < (a.length : Int)) || decide (48 < (b.length : Int))
theorem r8Long_any (v v' : Value) (xs ys : List Int) (w : World) (h : RdB w v xs) (h' : RdB w v' ys) :
    Calls Tryz.prog 9 #[v, v'] w fun e w' => e = .returned (.bool (isLong8 xs ys)) ∧ w = w' := by
  obtain ⟨a, c, rfl⟩ := h.shape
  obtain ⟨a', c', rfl⟩ := h'.shape
  clear h h'
  by_cases h1 : 48 < (xs.length : Int)
  · go_enter Tryz.func9, Tryz.ntmps9
    go_wp2_with fail
    go_ret
    exact ⟨by simp [isLong8, h1], rfl⟩
  · go_enter Tryz.func9, Tryz.ntmps9
    go_wp2_with fail
    go_ret
    exact ⟨by congr 2; simp [isLong8, h1]; omega, rfl⟩
set_option maxHeartbeats 400000 in
theorem r8At_any (v : Value) (xs : List Int) (i n : Int) (w : World) (h : RdB w v xs) (hw : WfB xs) (h0 : 0 ≤ i) (h1 : i ≤ 1000000) (n1 : 1 ≤ n) (n2 : n ≤ 1000) :
    Calls Tryz.prog 14 #[v, .int .i64 i, .int .i64 n] w (PickE n w) := by
  obtain ⟨a, c, rfl⟩ := h.shape
  by_cases hn : n ≤ 1
  · clear h
    go_enter Tryz.func14, Tryz.ntmps14
    go_wp2_with fail
    go_ret
    exact ⟨0, by omega, by omega, rfl, rfl⟩
  · by_cases hl : i < (xs.length : Int)
    · obtain ⟨k, rfl⟩ := Int.eq_ofNat_of_zero_le h0
      have hk : k < xs.length := by omega
      obtain ⟨b, off, rfl, _, hc⟩ := h.at hk
      obtain ⟨hx0, hx1⟩ := hw.at hk
      obtain ⟨x, hx⟩ : ∃ x, x = xs.getD k 0 := ⟨_, rfl⟩
      rw [← hx] at hc hx0 hx1
      have hle := h.len
      unfold maxLen at hle
      clear hx h hw
      go_enter Tryz.func14, Tryz.ntmps14
      go_wp2_with fail
      go_ret
      exact ⟨x % n, Int.emod_nonneg _ (by omega), Int.emod_lt_of_pos _ (by omega), rfl, rfl⟩
    · clear h
      go_enter Tryz.func14, Tryz.ntmps14
      go_wp2_with fail
      go_ret
      exact ⟨0, by omega, by omega, rfl, rfl⟩
end Go.Proofs.YtgkbbpajkbkgnaaGreatDoor

namespace Go.Proofs.YtgkbbpajkbkgnaaGreatDoor
open Go.RowKit
theorem Tryz.infoJob8 : (Tryz.prog.info? 86).map (fun i => (i.zero, i.size, i.bytes)) = some (some (.agg #[.int .i64 0, .int .i64 0, .int .i64 0, .int .i64 0]), 4, 32) := by kernel_rfl
theorem jobsC_snoc8 (js : List JobD) (j : JobD) : jobsC (js ++ [j]) = jobsC js ++ jobCells j := by simp [jobsC]
theorem ownJ_empty8 (w : World) (b : Nat) (hb : b = w.heap.size) : (w.alloc (.cells #[] 86)).ownsRow w.heap.size 86 4 (.slice (some ⟨b, 0, none⟩) 0 0) 0 (jobsC []) := by
  subst hb
  exact World.ownsRow_lit (base := w.heap.size) (e := 86) (size := 4) w #[] 0 (Nat.le_refl _) (by simp [maxLen]) rfl
theorem owns4_shape8 {w : World} {base n : Nat} {v : Value} {vs : List Value} (h : w.ownsRow base 86 4 v n vs) : ∃ a cap, v = .slice a n cap := by
  rcases h.2 with ⟨rfl, e⟩ | ⟨g, cap, cur, rfl, _⟩
  · subst e
    exact ⟨none, 0, rfl⟩
  · exact ⟨_, _, rfl⟩
theorem belowK_grown8 {w w' : World} {base n size : Nat} {e : TypeId} {v : Value} {vs : List Value} (h : w.ownsRow base e size v n vs) (hbase : base ≤ w.heap.size) (hg : w.grownBy w' v.ownBlock) : Below base w w' :=
  ⟨hg.os, hg.tape, hg.output, hg.size, fun k hk => hg.block k (by omega) fun e => by
    have := (h.lt k e.symm).1
    omega⟩
theorem run_app_job {w : World} (t : TypeId) (base : Nat) (v : Value) (n : Nat) (js : List JobD) (hown : w.ownsRow base 86 4 v n (jobsC js))
    (j : JobD) (b : Nat) (hblk : Blk w b 86 #[.int .i64 j.long, .int .i64 j.due, .int .i64 j.weight, .int .i64 j.ready]) (hlen : n ≤ 1048576) (hbase : base ≤ w.heap.size) :
    ∃ a' cap' w', (Builtin.append_ #[28, 28] t #[v, .slice (some ⟨b, 0, none⟩) 1 1]).run Tryz.prog w = .ok (.slice a' (n + 1) cap') w' ∧ w'.ownsRow base 86 4 (.slice a' (n + 1) cap') (n + 1) (jobsC (js ++ [j])) ∧ Below base w w' := by
  obtain ⟨i0, hi, hz0, hz1, hz2⟩ := info_parts Tryz.infoJob8
  have hc : ∀ t u, (jobCells j)[t]? = some u → w.cell? ((⟨b, 0, none⟩ : Addr).add t) = some u := by
    intro t u ht
    have h1 : w.heap[b]? = some (.cells #[.int .i64 j.long, .int .i64 j.due, .int .i64 j.weight, .int .i64 j.ready] 86) := hblk
    have h2 : ((⟨b, 0, none⟩ : Addr).add t) = ⟨b, t, none⟩ := by unfold Addr.add; split <;> simp_all
    rw [h2]
    simp only [World.cell?, h1]
    simpa [jobCells, I64] using ht
  obtain ⟨v', w', hr, h2, h3, _, h5⟩ := run_append_own_at (P := Tryz.prog) w base 28 t 86 i0 (.agg #[.int .i64 0, .int .i64 0, .int .i64 0, .int .i64 0]) 4 32 Tryz.underlying28 hi hz0 hz1 hz2 rfl (by decide) v n (jobsC js) hown ⟨b, 0, none⟩ 1 1 (jobCells j) rfl hc (by intro y hy; simp only [jobCells, List.mem_cons, List.not_mem_nil, or_false] at hy; rcases hy with rfl | rfl | rfl | rfl <;> rfl) (by unfold maxLen; omega) (by omega) hbase
  obtain ⟨a', cap', rfl⟩ := owns4_shape8 h2
  refine ⟨a', cap', w', hr, ?_, belowK_grown8 hown hbase h3⟩
  rw [jobsC_snoc8]
  exact h2
set_option maxHeartbeats 2000000 in
set_option maxRecDepth 4000 in
theorem l06DrawJobs_any (W0 : World) (v : Value) (bs : List Int) (hR : RdB W0 v bs) (hw : WfB bs) (sb c : Nat) (w : World) (hsb : W0.heap.size ≤ sb) (hb : Below W0.heap.size W0 w) (h : SrcAt w sb v c) (hc : c ≤ 1000) (n : Nat) (hn : n ≤ 64) :
    Calls Tryz.prog 113 #[.pointer (some ⟨sb, 0, none⟩), .int .i64 n] w fun e w' => ∃ (js : List JobD) (v' : Value), js.length = n ∧ (∀ i, i < n → jobB (js.getD i J0) = true) ∧ e = .returned v' ∧ OwnJ w.heap.size w'.heap.size w' v' js ∧ Kept (· = sb) w w' ∧ SrcAt w' sb v (c + 8 * n) := by
  have HR := Lib.hid hR
  have HW := Lib.hid hw
  have HB := Lib.hid hb
  have HS := Lib.hid h
  have hsw := h.lt
  clear hR hw hb h
  go_enter Tryz.func113, Tryz.ntmps113
  go_wp2_with fail
  go_loopw [1, 5] (fun nv ov wr => ∃ (j : Nat) (js : List JobD) (oa : Option Addr) (oc m : Nat), nv = .int .i64 j ∧ Hid (js.length = m) ∧ m + j = n ∧ ov = .slice oa m oc ∧ Hid (wr.ownsRow w.heap.size 86 4 (.slice oa m oc) m (jobsC js)) ∧ Hid (∀ i, i < m → jobB (js.getD i J0) = true) ∧ Hid (SrcAt wr sb v (c + 8 * m)) ∧ Hid (Kept (· = sb) w wr)) (fun nv _ _ => (intOf nv).toNat)
  case atStart => exact ⟨n, [], _, 0, 0, rfl, Lib.hid rfl, by omega, rfl, Lib.hid (ownJ_empty8 _ _ rfl), Lib.hid (by intro i hi; omega), Lib.hid (HS.out.below ((Below.refl _ _).alloc (Nat.le_refl _) _) hsw), Lib.hid ((Kept.refl _ _).alloc _)⟩
  case round =>
    obtain ⟨j, js, oa, oc, m, rfl, HL, hmj, rfl, HO, HA, HS2, HK⟩ := hrel
    obtain ⟨wo, rfl⟩ : ∃ wo, wo = wr := ⟨wr, rfl⟩
    have hszo := HK.out.size
    have HB2 := Lib.hid (HB.out.trans (HK.out.toBelow HB.out.size (fun k h1 h2 => by omega)))
    by_cases hj : 0 < j
    · have hjI : (0 : Int) < (j : Int) := by omega
      go_upto_region 5 with (go_at_call 81; refine (pick_any W0 v bs HR.out HW.out sb (c + 8 * m) wo hsb HB2.out HS2.out (by omega) 9 (by omega) (by omega)).mono ?_; rintro e w1 ⟨x, hx0, hx1, rfl, hs, hk⟩; have hwx : IntKind.i64.wrap (1 + x) = 1 + x := IntWalk.i64_in _ (by omega))
      refine wp_at fun W hW => ?_
      have hz1 := hk.size
      have HKP := Lib.hid (show Blk W w1.heap.size 86 #[.int .i64 (1 + x), .int .i64 0, .int .i64 0, .int .i64 0] by subst hW; exact Blk.new _ _ _)
      have HKW := Lib.hid (show Kept (· = sb) wo W by subst hW; exact hk.alloc _)
      have HSW := Lib.hid (show SrcAt W sb v (c + 8 * m + 2) by subst hW; exact hs.below ((Below.refl _ _).alloc (Nat.le_refl _) _) hs.lt)
      have HBW := Lib.hid (HB2.out.trans (HKW.out.toBelow HB2.out.size (fun k h1 h2 => by omega)))
      clear hW hs hk hwx
      have hsz1 := HKW.out.size
      have hsb1 : sb < w1.heap.size := by omega
      obtain ⟨p, hp⟩ : ∃ p, p = w1.heap.size := ⟨_, rfl⟩
      rw [← hp] at HKP ⊢
      have hpw : wo.heap.size ≤ p := by rw [hp]; exact hz1
      have hps : p ≠ sb := by omega
      have hpl := HKP.out.lt
      clear hp hsb1
      go_upto_region 6 with (go_at_call 81; refine (pick_any W0 v bs HR.out HW.out sb (c + 8 * m + 2) W hsb HBW.out HSW.out (by omega) 25 (by omega) (by omega)).mono ?_; rintro e w5 ⟨y, hy0, hy1, rfl, hs5, hk5⟩; have HKP5 := HKP.out.kept hk5 hps; have d5 := HKP5.cell 1 rfl; have f5 := HKP5.free 1)
      refine wp_at fun Wa hWa => ?_
      have HKPN5 := Lib.hid (show Blk Wa p 86 #[.int .i64 (1 + x), .int .i64 y, .int .i64 0, .int .i64 0] by subst hWa; simpa using HKP5.set 1 (.int .i64 y))
      have HSN5 := Lib.hid (show SrcAt Wa sb v (c + 8 * m + 4) by subst hWa; exact SrcAt.kept hs5 (Kept.setCell (S := fun b => b = p) (Kept.refl _ w5) (p := ⟨p, 1, none⟩) (.inr rfl) _) (fun e => hps e.symm))
      have HKN5 := Lib.hid (show Kept (· = sb) wo Wa by subst hWa; exact (HKW.out.trans hk5).setCell (.inl hpw) _)
      have HBN5 := Lib.hid (HB2.out.trans (HKN5.out.toBelow HB2.out.size (fun k h1 h2 => by omega)))
      clear hWa d5 f5 HKP5 hk5 hs5
      go_upto_region 7 with (go_at_call 81; refine (pick_any W0 v bs HR.out HW.out sb (c + 8 * m + 4) Wa hsb HBN5.out HSN5.out (by omega) 6 (by omega) (by omega)).mono ?_; rintro e w6 ⟨z, hz0, hz1, rfl, hs6, hk6⟩; have HKP6 := HKPN5.out.kept hk6 hps; have d6 := HKP6.cell 2 rfl; have f6 := HKP6.free 2)
      refine wp_at fun Wb hWb => ?_
      have HKPN6 := Lib.hid (show Blk Wb p 86 #[.int .i64 (1 + x), .int .i64 y, .int .i64 z, .int .i64 0] by subst hWb; simpa using HKP6.set 2 (.int .i64 z))
      have HSN6 := Lib.hid (show SrcAt Wb sb v (c + 8 * m + 6) by subst hWb; exact SrcAt.kept hs6 (Kept.setCell (S := fun b => b = p) (Kept.refl _ w6) (p := ⟨p, 2, none⟩) (.inr rfl) _) (fun e => hps e.symm))
      have HKN6 := Lib.hid (show Kept (· = sb) wo Wb by subst hWb; exact (HKN5.out.trans hk6).setCell (.inl hpw) _)
      have HBN6 := Lib.hid (HB2.out.trans (HKN6.out.toBelow HB2.out.size (fun k h1 h2 => by omega)))
      clear hWb d6 f6 HKP6 hk6 hs6
      go_upto_region 8 with (go_at_call 81; refine (pick_any W0 v bs HR.out HW.out sb (c + 8 * m + 6) Wb hsb HBN6.out HSN6.out (by omega) 12 (by omega) (by omega)).mono ?_; rintro e w7 ⟨u, hu0, hu1, rfl, hs7, hk7⟩; have HKP7 := HKPN6.out.kept hk7 hps; have d7 := HKP7.cell 3 rfl; have f7 := HKP7.free 3)
      refine wp_at fun Wc hWc => ?_
      have HKPN7 := Lib.hid (show Blk Wc p 86 #[.int .i64 (1 + x), .int .i64 y, .int .i64 z, .int .i64 u] by subst hWc; simpa using HKP7.set 3 (.int .i64 u))
      have HSN7 := Lib.hid (show SrcAt Wc sb v (c + 8 * m + 8) by subst hWc; exact SrcAt.kept hs7 (Kept.setCell (S := fun b => b = p) (Kept.refl _ w7) (p := ⟨p, 3, none⟩) (.inr rfl) _) (fun e => hps e.symm))
      have HKN7 := Lib.hid (show Kept (· = sb) wo Wc by subst hWc; exact (HKN6.out.trans hk7).setCell (.inl hpw) _)
      have HBN7 := Lib.hid (HB2.out.trans (HKN7.out.toBelow HB2.out.size (fun k h1 h2 => by omega)))
      clear hWc d7 f7 HKP7 hk7 hs7
      have d0 := HKPN7.out.cell 0 rfl
      have d1 := HKPN7.out.cell 1 rfl
      have d2 := HKPN7.out.cell 2 rfl
      have d3 := HKPN7.out.cell 3 rfl
      have hsz6 := HKN7.out.size
      have HO6 := Lib.hid (ownsK_kept HO.out HKN7.out (fun g hg e => by have := (HO.out.lt g hg).1; omega))
      have HRUN := Lib.hid (run_app_job (w := Wc.alloc (.cells #[.int .i64 (1 + x), .int .i64 y, .int .i64 z, .int .i64 u] 86)) 28 w.heap.size (.slice oa m oc) m js (ownsK_below HO6.out ((Below.refl _ _).alloc (Nat.le_refl _) _) (Nat.le_refl _)) ⟨1 + x, y, z, u⟩ Wc.heap.size (Blk.new _ _ _) (by omega) (by simp; omega))
      obtain ⟨a7, c7, w9, hr7, ho7, hb7⟩ := HRUN.out
      have HR7 := Lib.hid hr7
      clear hr7 HRUN
      go_wp2_with (at_builtin; refine Lib.wpList_append_run _ rfl _ _ 28 28 rfl _ _ rfl rfl _ _ HR7.out ?_)
      have HB7 := Lib.hid (((Below.refl w.heap.size Wc).alloc (by omega) _).trans hb7)
      go_roundw
      case rel => exact ⟨j - 1, js ++ [⟨1 + x, y, z, u⟩], a7, c7, m + 1, by rw [show ((j - 1 : Nat) : Int) = (j : Int) - 1 by omega], Lib.hid (by rw [List.length_append, HL.out]; rfl), by omega, rfl, Lib.hid ho7, Lib.hid (fun i hi => by
        by_cases e : i = m
        · rw [e, List.getD_eq_getElem?_getD, List.getElem?_append_right (by rw [HL.out]; exact Nat.le_refl _), HL.out, Nat.sub_self]
          show jobB ⟨1 + x, y, z, u⟩ = true
          unfold jobB
          simp only [Bool.and_eq_true, inB_iff]
          omega
        · have := HA.out i (by omega)
          rw [List.getD_eq_getElem?_getD] at this ⊢
          rw [List.getElem?_append_left (by rw [HL.out]; omega)]
          exact this), Lib.hid ((HSN7.out.below HB7.out hsw).mono (by omega)), Lib.hid ((HK.out.trans HKN7.out).below HB7.out (Nat.le_refl _))⟩
      case measure => simp [intOf]; omega
    · obtain rfl : j = 0 := by omega
      obtain rfl : m = n := by omega
      go_wp2_with fail
      go_ret
      exact ⟨js, _, HL.out, HA.out, rfl, by rw [← HL.out] at HO ⊢; exact OwnJ.mk HO.out, HK.out, HS2.out⟩
end Go.Proofs.YtgkbbpajkbkgnaaGreatDoor
