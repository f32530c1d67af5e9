/-
  FnExactReadJobs: texts joined: Split, MarkJ, JobsT, Same, SameL, SameC, Float, PredF.
-/
import Derived.Deep.RegionHeld3
import Derived.Laws.FloatArith
import Derived.Test.YtggpbekclegfoaaDoorMEReadJobsAA
import Derived.Test.YtggpbekclegfoaaDoorMEReadJobsAB
import Derived.Test.YtggpbekclegfoaaDoorMEReadJobsAC
import Derived.Test.YtggpbekclegfoaaDoorMEReadJobsAD
namespace Go.Proofs.YtggpbekclegfoaaDoor
open Go.RowKit

theorem partsC_le (c : UInt8) : ∀ (l : List UInt8), ∀ p ∈ partsC c l, p.length ≤ l.length
  | [], p, h => by
    simp only [partsC, List.mem_singleton] at h
    subst h
    exact Nat.le_refl _
  | b :: r, p, h => by
    have ih := partsC_le c r
    simp only [partsC] at h
    split at h
    · rw [List.mem_cons] at h
      rcases h with rfl | h
      · simp
      · have := ih p h
        simp only [List.length_cons]; omega
    · split at h
      · rw [List.mem_singleton] at h
        subst h
        simp
      · rename_i x t he
        rw [he] at ih
        rw [List.mem_cons] at h
        rcases h with rfl | h
        · have := ih x (by simp)
          simp only [List.length_cons]; omega
        · have := ih p (by simp [h])
          simp only [List.length_cons]; omega
theorem cutS_le (c : UInt8) (s : ByteArray) : ∀ x ∈ cutS c s, x.size ≤ s.size := by
  intro x hx
  obtain ⟨p, hp, rfl⟩ := List.mem_map.1 hx
  have := partsC_le c s.data.toList p hp
  rw [mkB_size]
  rw [Array.length_toList] at this
  exact this

theorem SplitC_any (c : UInt8) (t : ByteArray) (w : World) (h : HasMax w) (ht : t.size ≤ 1048576) :
    Calls Tryd.prog 43 #[.string t, .string ⟨#[c]⟩] w fun e w' => ∃ a cap, e = .returned (.slice a (cutS c t).length cap) ∧ RdSs w' (.slice a (cutS c t).length cap) (cutS c t) ∧ Below w.heap.size w w' := by
  obtain ⟨m, hm⟩ := h
  refine (Tryd.strings_Split t ⟨#[c]⟩ m w (by omega) hm (by show 1 ≤ 1; omega)).mono ?_
  rintro e w' ⟨rfl, rfl⟩
  have h1 := Lib.splitB_all ⟨#[c]⟩ (by show 1 ≤ 1; omega) 0 _ t rfl
  rw [splitB_cutS] at h1 ⊢
  rw [← h1]
  have hc := cutS_cnt c t
  refine ⟨_, _, rfl, ⟨.inr ⟨⟨w.heap.size, 0, none⟩, (cutS c t).length, by rw [List.length_map], by rw [List.length_map]; exact Nat.le_refl _, by unfold maxLen; omega, fun i u hi => ?_⟩, fun s hs => ?_⟩, (Below.refl _ _).alloc (Nat.le_refl _) _⟩
  · have h1 : (w.alloc (.cells ((cutS c t).map SV).toArray 9)).heap[w.heap.size]? = some (.cells ((cutS c t).map SV).toArray 9) := heap_alloc_new w _
    have h2 : ((⟨w.heap.size, 0, none⟩ : Addr).add i) = ⟨w.heap.size, i, none⟩ := by unfold Addr.add; split <;> simp_all
    rw [h2]
    show (w.alloc (.cells ((cutS c t).map SV).toArray 9)).cell? _ = _
    simp only [World.cell?, h1]
    simpa using hi
  · have := cutS_le c t s hs
    unfold maxLen; omega

/-! ### Lists with a text -/
/-- The words between commas; none of 'none'. -/
def wsOf (s : ByteArray) : List ByteArray := if s = noneS then [] else cutS 44 s
def listOk (s : ByteArray) : Bool := (wsOf s).all valOk && decide ((wsOf s).length ≤ 64)
def valsK (s : ByteArray) (k : Nat) : List Int := ((wsOf s).take k).map valN
def rdV (s : ByteArray) : List Int := if listOk s = true then (wsOf s).map valN else []
theorem wsOf_le (s : ByteArray) : ∀ x ∈ wsOf s, x.size ≤ s.size := by
  unfold wsOf
  split
  · intro x h; cases h
  · exact cutS_le 44 s
theorem wsOf_cnt (s : ByteArray) : (wsOf s).length ≤ s.size + 1 := by
  unfold wsOf
  split
  · simp
  · exact cutS_cnt 44 s
theorem wsOf_at {s : ByteArray} {k : Nat} (h : k < (wsOf s).length) : ((wsOf s).getD k E0).size ≤ s.size := by
  rw [List.getD_eq_getElem?_getD, List.getElem?_eq_getElem h]
  exact wsOf_le s _ (List.getElem_mem _)
theorem valsK_succ (s : ByteArray) (k : Nat) (h : k < (wsOf s).length) : valsK s (k + 1) = valsK s k ++ [valN ((wsOf s).getD k E0)] := by
  unfold valsK
  rw [List.take_add_one, List.map_append, List.getElem?_eq_getElem h, List.getD_eq_getElem?_getD, List.getElem?_eq_getElem h]
  rfl
theorem valsK_len (s : ByteArray) (k : Nat) (h : k ≤ (wsOf s).length) : (valsK s k).length = k := by
  unfold valsK
  rw [List.length_map, List.length_take]
  omega
theorem valsK_all (s : ByteArray) : valsK s (wsOf s).length = (wsOf s).map valN := by unfold valsK; rw [List.take_length]
theorem listOk_bad {s : ByteArray} {k : Nat} (hk : k < (wsOf s).length) (h : valOk ((wsOf s).getD k E0) = false) : listOk s = false := by
  unfold listOk
  rw [Bool.and_eq_false_iff]
  left
  rw [List.all_eq_false]
  refine ⟨(wsOf s)[k], List.getElem_mem _, ?_⟩
  rw [List.getD_eq_getElem?_getD, List.getElem?_eq_getElem hk] at h
  simp only [Option.getD_some] at h
  rw [h]; simp
theorem listOk_all {s : ByteArray} (h : ∀ j, j < (wsOf s).length → valOk ((wsOf s).getD j E0) = true) : listOk s = decide ((wsOf s).length ≤ 64) := by
  unfold listOk
  rw [show (wsOf s).all valOk = true by
    rw [List.all_eq_true]
    intro x hx
    obtain ⟨i, hi, rfl⟩ := List.mem_iff_getElem.1 hx
    have := h i hi
    rwa [List.getD_eq_getElem?_getD, List.getElem?_eq_getElem hi] at this, Bool.true_and]
theorem listOk_long {s : ByteArray} (h : 64 < (wsOf s).length) : listOk s = false := by
  unfold listOk
  rw [show decide ((wsOf s).length ≤ 64) = false from decide_eq_false (by omega), Bool.and_false]
theorem valOk_in {s : ByteArray} (h : valOk s = true) : -1000000000000000 ≤ valN s ∧ valN s ≤ 1000000000000000 := by
  unfold valOk at h
  cases hv : valB s with
  | none => rw [hv] at h; cases h
  | some v =>
    have h1 := valB_some hv
    rw [(valN_some hv).1]
    exact ⟨h1.1, h1.2.1⟩
theorem vals_allIn {s : ByteArray} (h : ∀ j, j < (wsOf s).length → valOk ((wsOf s).getD j E0) = true) : allIn (-1000000000000000) 1000000000000000 ((wsOf s).map valN) = true := by
  refine allIn_true fun i hi => ?_
  rw [List.length_map] at hi
  have h1 := valOk_in (h i hi)
  rw [List.getD_eq_getElem?_getD, List.getElem?_eq_getElem hi] at h1
  rw [List.getD_eq_getElem?_getD, List.getElem?_map, List.getElem?_eq_getElem hi, inB_iff]
  exact h1
theorem wsOf_none : wsOf noneS = [] := by unfold wsOf; rw [if_pos rfl]
theorem wsOf_not {s : ByteArray} (h : s ≠ noneS) : wsOf s = cutS 44 s := by unfold wsOf; rw [if_neg h]
theorem rdV_ok {s : ByteArray} (h : listOk s = true) : rdV s = (wsOf s).map valN := by unfold rdV; rw [if_pos h]
theorem rdV_no {s : ByteArray} (h : listOk s = false) : rdV s = [] := by unfold rdV; rw [h]; rfl
theorem rdV_len {s : ByteArray} : (rdV s).length ≤ 64 := by
  unfold rdV
  split
  · rename_i h
    unfold listOk at h
    rw [Bool.and_eq_true, decide_eq_true_iff] at h
    rw [List.length_map]
    exact h.2
  · simp

end Go.Proofs.YtggpbekclegfoaaDoor

namespace Go.Proofs.YtggpbekclegfoaaDoor
open Go.RowKit

def jobV (j : JobD) : Value := .agg #[.int .i64 j.long, .int .i64 j.due, .int .i64 j.weight, .int .i64 j.ready]

set_option maxHeartbeats 1000000 in
theorem eqJob_same (j : JobD) (w : World) :
    Calls Tryd.prog 30 #[jobV j, jobV j] w fun e w' => e = .returned (.bool true) ∧ Below w.heap.size w w' := by
  obtain ⟨a, b, c, d⟩ := j
  have h1 : (a != a) = false := by simp
  have h2 : (b != b) = false := by simp
  have h3 : (c != c) = false := by simp
  have h4 : (d != d) = false := by simp
  unfold jobV
  simp only
  go_enter Tryd.func30, Tryd.ntmps30
  go_wp2_with fail
  go_ret
  exact ⟨rfl, by (repeat' first | exact Below.refl _ _ | assumption | refine Below.alloc ?_ ?_ _ | refine Below.setCell ?_ ?_ _ | refine Below.drew ?_ | (simp; done) | (simp; omega))⟩

set_option maxHeartbeats 1000000 in
set_option maxRecDepth 4000 in
theorem eqJ_same (v v' : Value) (js : List JobD) (w : World) (h : RdJ w v js) (h' : RdJ w v' js) :
    Calls Tryd.prog 11 #[v, v'] w fun e w' => e = .returned (.bool true) ∧ Below w.heap.size w w' := by
  obtain ⟨a, c, rfl⟩ := h.shape
  obtain ⟨a', c', rfl⟩ := h'.shape
  have hl := h.len
  unfold maxLen at hl
  have hne : ((js.length : Int) != (js.length : Int)) = false := by simp
  have HS := Lib.hid h
  have HS' := Lib.hid h'
  clear h h'
  go_enter Tryd.func11, Tryd.ntmps11
  go_wp2_with fail
  go_loopw [5] (fun i wr => ∃ k : Nat, i = .int .i64 k ∧ k ≤ js.length ∧ Below w.heap.size w wr) (fun i _ => js.length - (intOf i).toNat)
  case atStart => exact ⟨0, rfl, Nat.zero_le _, Below.refl _ _⟩
  case round =>
    obtain ⟨k, rfl, hk, hbl⟩ := hrel
    have HB := Lib.hid hbl
    clear hbl
    by_cases hlt : k < js.length
    · obtain ⟨b, off, rfl, hb0, x0, x1, x2, x3⟩ := (HS.out.up HB.out (Nat.le_refl _)).at hlt
      obtain ⟨b', off', rfl, hb0', y0, y1, y2, y3⟩ := (HS'.out.up HB.out (Nat.le_refl _)).at hlt
      obtain ⟨j, hj⟩ : ∃ j, j = js.getD k J0 := ⟨_, rfl⟩
      rw [← hj] at x0 x1 x2 x3 y0 y1 y2 y3
      have HE := Lib.hid (eqJob_same j)
      obtain ⟨p, q, r, s⟩ := j
      simp only at x0 x1 x2 x3 y0 y1 y2 y3
      clear hj
      have kk : (k : Int) < (js.length : Int) := by omega
      have HKEEP := Lib.hid (show ∀ X, Below wr.heap.size wr X → (fun X => X.cell? ⟨b, off + k * 4, none⟩ = some (.int .i64 p) ∧ X.cell? ⟨b, off + k * 4 + 1, none⟩ = some (.int .i64 q) ∧ X.cell? ⟨b, off + k * 4 + 2, none⟩ = some (.int .i64 r) ∧ X.cell? ⟨b, off + k * 4 + 3, none⟩ = some (.int .i64 s) ∧ X.cell? ⟨b', off' + k * 4, none⟩ = some (.int .i64 p) ∧ X.cell? ⟨b', off' + k * 4 + 1, none⟩ = some (.int .i64 q) ∧ X.cell? ⟨b', off' + k * 4 + 2, none⟩ = some (.int .i64 r) ∧ X.cell? ⟨b', off' + k * 4 + 3, none⟩ = some (.int .i64 s)) X from fun X hb => ⟨held_of hb x0 (Nat.le_refl _), held_of hb x1 (Nat.le_refl _), held_of hb x2 (Nat.le_refl _), held_of hb x3 (Nat.le_refl _), held_of hb y0 (Nat.le_refl _), held_of hb y1 (Nat.le_refl _), held_of hb y2 (Nat.le_refl _), held_of hb y3 (Nat.le_refl _)⟩)
      go_wp2_with fail
      go_region_held3 (fun X => X.cell? ⟨b, off + k * 4, none⟩ = some (.int .i64 p) ∧ X.cell? ⟨b, off + k * 4 + 1, none⟩ = some (.int .i64 q) ∧ X.cell? ⟨b, off + k * 4 + 2, none⟩ = some (.int .i64 r) ∧ X.cell? ⟨b, off + k * 4 + 3, none⟩ = some (.int .i64 s) ∧ X.cell? ⟨b', off' + k * 4, none⟩ = some (.int .i64 p) ∧ X.cell? ⟨b', off' + k * 4 + 1, none⟩ = some (.int .i64 q) ∧ X.cell? ⟨b', off' + k * 4 + 2, none⟩ = some (.int .i64 r) ∧ X.cell? ⟨b', off' + k * 4 + 3, none⟩ = some (.int .i64 s))
        (first | exact HKEEP.out _ hbn | (refine HKEEP.out _ ?_; (repeat' first | exact Below.refl _ _ | assumption | refine Below.alloc ?_ ?_ _ | refine Below.setCell ?_ ?_ _ | refine Below.drew ?_ | (simp; done) | (simp; omega)); done) | go_keep)
        (first
          | (go_at_call 30; refine (HE.out _).mono ?_; rintro e w1 ⟨rfl, hb1⟩; have hbn : Below wr.heap.size wr w1 := Below.trans (by (repeat' first | exact Below.refl _ _ | assumption | refine Below.alloc ?_ ?_ _ | refine Below.setCell ?_ ?_ _ | refine Below.drew ?_ | (simp; done) | (simp; omega))) (hb1.mono (by simp)))
          | fail)
      go_wp2_with fail
      go_roundw
      case rel => exact ⟨k + 1, by go_num, by omega, HB.out.trans (hbn.mono HB.out.size)⟩
      case measure => simp [intOf]; omega
    · obtain rfl : k = js.length := by omega
      go_wp2_with fail
      go_ret
      exact ⟨rfl, HB.out⟩

/-- The marks of jobs. -/
def mkdJ (k : Int) (js : List JobD) : List JobD := (List.range js.length).map fun (i : Nat) => ⟨k + 4 * i, k + 4 * i + 1, k + 4 * i + 2, k + 4 * i + 3⟩
theorem mkdJ_len (k : Int) (js : List JobD) : (mkdJ k js).length = js.length := by simp [mkdJ]
theorem mkdJ_at (k : Int) (js : List JobD) (i : Nat) (h : i < js.length) : (mkdJ k js).getD i J0 = ⟨k + 4 * i, k + 4 * i + 1, k + 4 * i + 2, k + 4 * i + 3⟩ := by simp [mkdJ, h]

set_option maxHeartbeats 1000000 in
theorem heldJ_o (v : Value) (js : List JobD) (k : Int) (w : World) (h : RdJ w v (mkdJ k js)) (h0 : 0 ≤ k) (h1 : k + cntJ js ≤ 1099511627776) :
    Calls Tryd.prog 20 #[v, .int .i64 k] w fun e w' => e = .returned (.int .i64 (k + cntJ js)) ∧ Below w.heap.size w w' := by
  obtain ⟨a, c, rfl⟩ := h.shape
  have hl := h.len
  unfold maxLen at hl
  rw [mkdJ_len] at hl ⊢
  have HS := Lib.hid h
  rw [mkdJ_len] at HS
  obtain ⟨n, hn⟩ : ∃ n, n = js.length := ⟨_, rfl⟩
  unfold cntJ at h1 ⊢
  rw [← hn] at hl HS h1 ⊢
  have HN := Lib.hid hn
  clear h hn
  go_enter Tryd.func20, Tryd.ntmps20
  go_wp2_with fail
  go_loopw [1, 5] (fun kk i wr => ∃ j : Nat, i = .int .i64 j ∧ j ≤ n ∧ kk = .int .i64 (k + 4 * j) ∧ Below w.heap.size w wr) (fun _ i _ => n - (intOf i).toNat)
  case atStart => exact ⟨0, rfl, Nat.zero_le _, by simp, Below.refl _ _⟩
  case round =>
    obtain ⟨j, rfl, hj, rfl, hbl⟩ := hrel
    have HB := Lib.hid hbl
    clear hbl
    by_cases hlt : j < n
    · obtain ⟨b, off, rfl, hb0, x0, x1, x2, x3⟩ := (HS.out.up HB.out (Nat.le_refl _)).at (i := j) (by rw [mkdJ_len]; have := HN.out; omega)
      rw [mkdJ_at k js j (by have := HN.out; omega)] at x0 x1 x2 x3
      simp only at x0 x1 x2 x3
      obtain ⟨q, hq⟩ : ∃ q, q = k + 4 * (j : Int) := ⟨_, rfl⟩
      have hq0 : 0 ≤ q := by omega
      have hq1 : q + 4 ≤ 1099511627776 := by omega
      rw [← hq] at x0 x1 x2 x3 ⊢
      have HQ := Lib.hid hq
      clear hq
      have g0 : (q != q) = false := by simp
      have g1 : (q + 1 != q + 1) = false := by simp
      have g2 : (q + 2 != q + 2) = false := by simp
      have g3 : (q + 3 != q + 3) = false := by simp
      have s1 : q + 1 + 1 = q + 2 := by omega
      have s2 : q + 2 + 1 = q + 3 := by omega
      go_wp2_with fail
      go_roundw
      case rel => exact ⟨j + 1, by go_num, by omega, congrArg (Value.int IntKind.i64) (by have := HQ.out; push_cast; omega), HB.out⟩
      case measure => simp [intOf]; omega
    · obtain rfl : j = n := by omega
      go_wp2_with fail
      go_ret
      exact ⟨congrArg (fun x => Ending.returned (Value.int IntKind.i64 x)) (by push_cast; omega), HB.out⟩

/-- The first m jobs marked. -/
def mkpJ (k : Int) (js : List JobD) (m : Nat) : List JobD := (List.range js.length).map fun (i : Nat) => if i < m then ⟨k + 4 * i, k + 4 * i + 1, k + 4 * i + 2, k + 4 * i + 3⟩ else js.getD i J0
theorem mkpJ_len (k : Int) (js : List JobD) (m : Nat) : (mkpJ k js m).length = js.length := by simp [mkpJ]
theorem mkpJ_zero (k : Int) (js : List JobD) : mkpJ k js 0 = js := by
  apply List.ext_getElem?
  intro i
  by_cases h : i < js.length
  · simp [mkpJ, h]
  · simp [mkpJ, h]
theorem mkpJ_full (k : Int) (js : List JobD) : mkpJ k js js.length = mkdJ k js := by
  apply List.ext_getElem?
  intro i
  by_cases h : i < js.length
  · simp [mkpJ, mkdJ, h]
  · simp [mkpJ, mkdJ, h]
theorem mkpJ_set (k : Int) (js : List JobD) (m : Nat) (hm : m < js.length) : mkpJ k js (m + 1) = (mkpJ k js m).set m ⟨k + 4 * m, k + 4 * m + 1, k + 4 * m + 2, k + 4 * m + 3⟩ := by
  apply List.ext_getElem?
  intro i
  rw [List.getElem?_set]
  by_cases h : i < js.length
  · by_cases he : m = i
    · subst he; simp [mkpJ, h]
    · have e : (i < m + 1) = (i < m) := by rw [eq_iff_iff]; omega
      simp [mkpJ, h, he, e]
  · by_cases he : m = i
    · omega
    · simp [mkpJ, h, he]
theorem jobsC_set : ∀ (js : List JobD) (i : Nat) (a b c d : Int), i < js.length → ((((jobsC js).set (i * 4) (I64 a)).set (i * 4 + 1) (I64 b)).set (i * 4 + 2) (I64 c)).set (i * 4 + 3) (I64 d) = jobsC (js.set i ⟨a, b, c, d⟩)
  | [], i, _, _, _, _, h => by simp at h
  | j :: r, 0, a, b, c, d, _ => by simp [jobsC, jobCells]
  | j :: r, i + 1, a, b, c, d, h => by
    have ih := jobsC_set r i a b c d (by simpa using h)
    have e : ∀ (L : List Value) (n m : Nat) (v : Value), m = n + 4 → (jobCells j ++ L).set m v = jobCells j ++ L.set n v := fun L n m v hm => by subst hm; rfl
    show ((((jobCells j ++ jobsC r).set ((i + 1) * 4) (I64 a)).set ((i + 1) * 4 + 1) (I64 b)).set ((i + 1) * 4 + 2) (I64 c)).set ((i + 1) * 4 + 3) (I64 d) = jobCells j ++ jobsC (r.set i ⟨a, b, c, d⟩)
    rw [e _ (i * 4) _ _ (by omega), e _ (i * 4 + 1) _ _ (by omega), e _ (i * 4 + 2) _ _ (by omega), e _ (i * 4 + 3) _ _ (by omega), ih]

theorem ownsK_some {w : World} {lo size : Nat} {e : TypeId} {a : Option Addr} {n cap : Nat} {vs : List Value} (h : w.ownsRow lo e size (.slice a n cap) n vs) (hn : 0 < n) : ∃ g, a = some ⟨g, 0, none⟩ ∧ lo ≤ g := by
  rcases h.2 with ⟨e, e2⟩ | ⟨g, cap', cur, e, hb, _⟩
  · simp at e; omega
  · simp only [Value.slice.injEq, true_and] at e
    exact ⟨g, e.1, hb⟩

set_option maxHeartbeats 1000000 in
theorem markJ_o (v : Value) (lo hi : Nat) (js : List JobD) (k : Int) (w : World) (ho : OwnJ lo hi w v js) (h0 : 0 ≤ k) (h1 : k + cntJ js ≤ 1099511627776) :
    Calls Tryd.prog 19 #[v, .int .i64 k] w fun e w' => e = .returned (.int .i64 (k + cntJ js)) ∧ OwnJ lo hi w' v (mkdJ k js) ∧ Kept (fun b => lo ≤ b ∧ b < hi) w w' := by
  obtain ⟨a, c, rfl⟩ := ho.rd.shape
  have hl := ho.rd.len
  unfold maxLen at hl
  unfold cntJ at h1 ⊢
  have HO := Lib.hid ho
  clear ho
  go_enter Tryd.func19, Tryd.ntmps19
  go_wp2_with fail
  go_loopw [1, 5] (fun kk i wr => ∃ j : Nat, i = .int .i64 j ∧ j ≤ js.length ∧ kk = .int .i64 (k + 4 * j) ∧ wr.ownsRow lo 49 4 (.slice a js.length c) js.length (jobsC (mkpJ k js j)) ∧ Kept (fun b => lo ≤ b ∧ b < hi) w wr) (fun _ i _ => js.length - (intOf i).toNat)
  case atStart => exact ⟨0, rfl, Nat.zero_le _, by simp, by rw [mkpJ_zero]; exact HO.out.1, Kept.refl _ _⟩
  case round =>
    obtain ⟨j, rfl, hj, rfl, hown, hkp⟩ := hrel
    have HO1 := Lib.hid hown
    have HK1 := Lib.hid hkp
    clear hkp
    by_cases hlt : j < js.length
    · obtain ⟨g, rfl, hlo⟩ := ownsK_some hown (by omega)
      have hhi := HO.out.2 g rfl
      clear hown
      have hlen := mkpJ_len k js j
      have d0 := HO1.out.cellAt (j * 4) (by omega)
      have d1 := HO1.out.cellAt (j * 4 + 1) (by omega)
      have d2 := HO1.out.cellAt (j * 4 + 2) (by omega)
      have d3 := HO1.out.cellAt (j * 4 + 3) (by omega)
      have e0 := jobsC_at (mkpJ k js j) j 0 (by omega) (by omega)
      rw [Nat.add_zero] at e0
      rw [e0] at d0
      rw [jobsC_at (mkpJ k js j) j 1 (by omega) (by omega)] at d1
      rw [jobsC_at (mkpJ k js j) j 2 (by omega) (by omega)] at d2
      rw [jobsC_at (mkpJ k js j) j 3 (by omega) (by omega)] at d3
      generalize (mkpJ k js j).getD j J0 = old at d0 d1 d2 d3
      simp only [jobCells, List.getElem?_cons_zero, List.getElem?_cons_succ, I64] at d0 d1 d2 d3
      have f0 := HO1.out.frozenAt (j * 4)
      have f1 := HO1.out.frozenAt (j * 4 + 1)
      have f2 := HO1.out.frozenAt (j * 4 + 2)
      have f3 := HO1.out.frozenAt (j * 4 + 3)
      have HST := Lib.hid ((((HO1.out.stored (j * 4) (.int .i64 (k + 4 * j))).1.stored (j * 4 + 1) (.int .i64 (k + 4 * j + 1))).1.stored (j * 4 + 2) (.int .i64 (k + 4 * j + 2))).1.stored (j * 4 + 3) (.int .i64 (k + 4 * j + 3))).1
      have HSET := Lib.hid (mkpJ_set k js j hlt)
      have HJC := Lib.hid (jobsC_set (mkpJ k js j) j (k + 4 * j) (k + 4 * j + 1) (k + 4 * j + 2) (k + 4 * j + 3) (by omega))
      clear e0 hlen
      have s1 : k + 4 * (j : Int) + 1 + 1 = k + 4 * (j : Int) + 2 := by omega
      have s2 : k + 4 * (j : Int) + 2 + 1 = k + 4 * (j : Int) + 3 := by omega
      go_wp2_with fail
      go_roundw
      case rel =>
        refine ⟨j + 1, by go_num, by omega, congrArg (Value.int IntKind.i64) (by push_cast; omega), ?_, (((HK1.out.setCell (.inr ⟨hlo, hhi⟩) _).setCell (.inr ⟨hlo, hhi⟩) _).setCell (.inr ⟨hlo, hhi⟩) _).setCell (.inr ⟨hlo, hhi⟩) _⟩
        rw [HSET.out, ← HJC.out]
        exact HST.out
      case measure => simp [intOf]; omega
    · clear hown
      obtain rfl : j = js.length := by omega
      go_wp2_with fail
      go_ret
      refine ⟨congrArg (fun x => Ending.returned (Value.int IntKind.i64 x)) (by push_cast; omega), ⟨?_, HO.out.2⟩, HK1.out⟩
      have h := HO1.out
      rw [mkpJ_full] at h
      rw [mkdJ_len]
      exact h

end Go.Proofs.YtggpbekclegfoaaDoor

namespace Go.Proofs.YtggpbekclegfoaaDoor
open Go.RowKit

set_option maxHeartbeats 400000 in
theorem szJ_any (v : Value) (js : List JobD) (left : Int) (w : World) (h : RdJ w v js) (h1 : left ≤ 1048576) (h0 : 0 ≤ left) :
    Calls Tryd.prog 7 #[v, .int .i64 left] w fun e w' => ∃ r : Int, e = .returned (.int .i64 r) ∧ -1 ≤ r ∧ r ≤ left ∧ (0 ≤ r → (bulkJ js : Int) ≤ left - r) ∧ Below w.heap.size w w' := by
  obtain ⟨a, c, rfl⟩ := h.shape
  have hl := h.len
  unfold maxLen at hl
  unfold bulkJ
  clear h
  by_cases hn : left - js.length < 0
  · go_enter Tryd.func7, Tryd.ntmps7
    go_wp2_with fail
    go_ret
    exact ⟨-1, rfl, by omega, by omega, by omega, Below.refl _ _⟩
  · go_enter Tryd.func7, Tryd.ntmps7
    go_wp2_with fail
    go_ret
    exact ⟨left - js.length, rfl, by omega, by omega, by omega, Below.refl _ _⟩

set_option maxHeartbeats 400000 in
theorem toJob_any (j : JobD) (w : World) :
    Calls Tryd.prog 27 #[jobV j] w fun e w' => e = .returned (jobV j) ∧ Below w.heap.size w w' := by
  obtain ⟨a, b, c, d⟩ := j
  unfold jobV
  simp only
  go_enter Tryd.func27, Tryd.ntmps27
  go_wp2_with fail
  refine bodyPost_ret (v := .agg #[.int .i64 a, .int .i64 b, .int .i64 c, .int .i64 d]) (by simp [results, Tryd.results27, go_sem]) rfl ⟨rfl, ?_⟩
  (repeat' first | exact Below.refl _ _ | assumption | refine Below.alloc ?_ ?_ _ | refine Below.setCell ?_ ?_ _ | refine Below.drew ?_ | (simp; done) | (simp; omega))

theorem Tryd.infoJob : (Tryd.prog.info? 49).map (fun i => (i.zero, i.size, i.bytes)) = some (some (.agg #[.int .i64 0, .int .i64 0, .int .i64 0, .int .i64 0]), 4, 32) := by kernel_rfl

theorem jobsC_zeros (n : Nat) : jobsC (List.replicate n J0) = (madeCells (Value.agg #[.int .i64 0, .int .i64 0, .int .i64 0, .int .i64 0]).cells (n * 4)).toList := by
  exact (flat_made jobCells J0 n (by simp [jobCells])).symm

set_option maxHeartbeats 1000000 in
theorem toJ_any (v : Value) (js : List JobD) (w : World) (h : RdJ w v js) (hb : bulkJ js ≤ 1048576) :
    Calls Tryd.prog 9 #[v] w fun e w' => ∃ v', e = .returned v' ∧ OwnJ w.heap.size w'.heap.size w' v' js ∧ Below w.heap.size w w' := by
  obtain ⟨i0, hi, hz0, hz1, hz2⟩ := info_parts Tryd.infoJob
  obtain ⟨a, c, rfl⟩ := h.shape
  unfold bulkJ at hb
  have HS := Lib.hid h
  clear h
  go_enter Tryd.func9, Tryd.ntmps9
  go_wp2_with (at_make; refine wpList_make_full _ rfl _ _ 26 rfl w.heap.size 49 i0 (.agg #[.int .i64 0, .int .i64 0, .int .i64 0, .int .i64 0]) 4 Tryd.underlying26 hi hz0 hz1 .i64 .i64 js.length js.length js.length rfl rfl rfl rfl (by rw [hz2]; omega) (by unfold maxLen; omega) (by simp) ?_; intro w1 hown hgrow)
  have hb1 : Below w.heap.size w w1 := (Below.refl _ _).grown hgrow (Nat.le_refl _) (by intro k hk; cases hk)
  rw [← jobsC_zeros] at hown
  have HO := Lib.hid hown
  have HB := Lib.hid hb1
  clear hown hb1 hgrow
  go_loopw [4] (fun i wr => ∃ k : Nat, i = .int .i64 k ∧ k ≤ js.length ∧ wr.ownsRow w.heap.size 49 4 (.slice (some ⟨w.heap.size, 0, none⟩) js.length js.length) js.length (jobsC (js.take k ++ List.replicate (js.length - k) J0)) ∧ Below w.heap.size w wr) (fun i _ => js.length - (intOf i).toNat)
  case atStart => exact ⟨0, rfl, Nat.zero_le _, by simpa using HO.out, HB.out⟩
  case round =>
    obtain ⟨k, rfl, hk, hown, hbel⟩ := hrel
    have HO1 := Lib.hid hown
    have HB1 := Lib.hid hbel
    clear hown hbel
    by_cases hlt : k < js.length
    · obtain ⟨b, off, rfl, hb0, x0, x1, x2, x3⟩ := (HS.out.up HB1.out (Nat.le_refl _)).at hlt
      obtain ⟨j, hj⟩ : ∃ j, j = js.getD k J0 := ⟨_, rfl⟩
      rw [← hj] at x0 x1 x2 x3
      have HJ := Lib.hid hj
      clear hj
      go_wp2_with fail
      refine (toJob_any j wr).mono ?_
      rintro e w2 ⟨rfl, hb2⟩
      have HO2 := Lib.hid (ownsK_below HO1.out hb2 (Nat.le_refl _))
      have HB2 := Lib.hid (HB1.out.trans (hb2.mono HB1.out.size))
      have hlen : (js.take k ++ List.replicate (js.length - k) J0).length = js.length := by simp; omega
      have d0 := HO2.out.cellAt (k * 4) (by omega)
      have d1 := HO2.out.cellAt (k * 4 + 1) (by omega)
      have d2 := HO2.out.cellAt (k * 4 + 2) (by omega)
      have d3 := HO2.out.cellAt (k * 4 + 3) (by omega)
      have hz : (js.take k ++ List.replicate (js.length - k) J0).getD k J0 = J0 := by
        rw [List.getD_eq_getElem?_getD, List.getElem?_append_right (by simp; omega)]
        rw [List.getElem?_replicate, if_pos (by simp; omega)]
        rfl
      have e0 := jobsC_at (js.take k ++ List.replicate (js.length - k) J0) k 0 (by omega) (by omega)
      rw [Nat.add_zero] at e0
      rw [e0, hz] at d0
      rw [jobsC_at _ k 1 (by omega) (by omega), hz] at d1
      rw [jobsC_at _ k 2 (by omega) (by omega), hz] at d2
      rw [jobsC_at _ k 3 (by omega) (by omega), hz] at d3
      simp only [J0, jobCells, List.getElem?_cons_zero, List.getElem?_cons_succ, I64] at d0 d1 d2 d3
      have f0 := HO2.out.frozenAt (k * 4)
      have f1 := HO2.out.frozenAt (k * 4 + 1)
      have f2 := HO2.out.frozenAt (k * 4 + 2)
      have f3 := HO2.out.frozenAt (k * 4 + 3)
      have HST := Lib.hid ((((HO2.out.stored (k * 4) (.int .i64 j.long)).1.stored (k * 4 + 1) (.int .i64 j.due)).1.stored (k * 4 + 2) (.int .i64 j.weight)).1.stored (k * 4 + 3) (.int .i64 j.ready)).1
      have HJC := Lib.hid (jobsC_set (js.take k ++ List.replicate (js.length - k) J0) k j.long j.due j.weight j.ready (by omega))
      have HLT := Lib.hid (set_mid (js.take k) (List.replicate (js.length - (k + 1)) J0) J0 j k (by simp; omega))
      clear e0 hlen hz hb2
      unfold jobV
      go_wp2_with fail
      go_roundw
      case rel =>
        refine ⟨k + 1, by go_num, by omega, ?_, (((HB2.out.setCell (Nat.le_refl _) _).setCell (Nat.le_refl _) _).setCell (Nat.le_refl _) _).setCell (Nat.le_refl _) _⟩
        have h1 := HST.out
        have h2 := HJC.out
        unfold I64 at h2
        rw [h2, show js.length - k = (js.length - (k + 1)) + 1 by omega, List.replicate_succ, HLT.out] at h1
        have e : js.take (k + 1) = js.take k ++ [j] := by rw [List.take_succ_eq_append_getElem hlt, HJ.out]; simp [hlt]
        rw [e, List.append_assoc]
        exact h1
      case measure => simp [intOf]; omega
    · obtain rfl : k = js.length := by omega
      go_wp2_with fail
      go_ret
      refine ⟨_, rfl, ?_, HB1.out⟩
      have := HO1.out
      simp at this
      exact OwnJ.mk this

end Go.Proofs.YtggpbekclegfoaaDoor

namespace Go.Proofs.YtggpbekclegfoaaDoor
open Go.RowKit

end Go.Proofs.YtggpbekclegfoaaDoor

namespace Go.Proofs.YtggpbekclegfoaaDoor
open Go.RowKit

theorem gtake_ne {α : Type} {d : α} {xs ys : List α} {k : Nat} (h : xs.getD k d ≠ ys.getD k d) : xs ≠ ys := by
  rintro rfl; exact h rfl
theorem gtake_succ {α : Type} {d : α} {xs ys : List α} {k : Nat} (hx : k < xs.length) (hy : k < ys.length) (h : xs.take k = ys.take k) (h2 : xs.getD k d = ys.getD k d) : xs.take (k + 1) = ys.take (k + 1) := by
  rw [List.take_succ_eq_append_getElem hx, List.take_succ_eq_append_getElem hy, h]
  simp [hx, hy] at h2
  rw [h2]

theorem RdL.drewN {w : World} {v : Value} {zss : List (List Int)} (h : RdL w v zss) (n : Nat) : RdL (w.drewN n) v zss := by
  obtain ⟨vs, h1, h2⟩ := h
  exact ⟨vs, h1.drewN n, h2.1, fun i u zs a b => (h2.2 i u zs a b).drewN n⟩

end Go.Proofs.YtggpbekclegfoaaDoor

namespace Go.Proofs.YtggpbekclegfoaaDoor
open Go.RowKit

def eqBy {α : Type} (f : α → α → Bool) : List α → List α → Bool
  | [], [] => true
  | x :: xs, y :: ys => f x y && eqBy f xs ys
  | _, _ => false
theorem eqBy_len {α : Type} (f : α → α → Bool) : ∀ (a b : List α), a.length ≠ b.length → eqBy f a b = false
  | [], [], h => by simp at h
  | [], y :: ys, _ => rfl
  | x :: xs, [], _ => rfl
  | x :: xs, y :: ys, h => by simp only [eqBy, eqBy_len f xs ys (by simpa using h), Bool.and_false]
theorem eqBy_ne {α : Type} (f : α → α → Bool) (d : α) : ∀ (a b : List α) (k : Nat), k < a.length → k < b.length → f (a.getD k d) (b.getD k d) = false → eqBy f a b = false
  | [], b, k, h, _, _ => by simp at h
  | x :: xs, [], k, _, h, _ => by simp at h
  | x :: xs, y :: ys, 0, _, _, h => by simp only [List.getD_cons_zero] at h; simp only [eqBy, h, Bool.false_and]
  | x :: xs, y :: ys, k + 1, h1, h2, h => by
    simp only [List.getD_cons_succ] at h
    simp only [eqBy, eqBy_ne f d xs ys k (by simpa using h1) (by simpa using h2) h, Bool.and_false]
theorem eqBy_all {α : Type} (f : α → α → Bool) (d : α) : ∀ (a b : List α), a.length = b.length → (∀ k, k < a.length → f (a.getD k d) (b.getD k d) = true) → eqBy f a b = true
  | [], [], _, _ => rfl
  | [], y :: ys, h, _ => by simp at h
  | x :: xs, [], h, _ => by simp at h
  | x :: xs, y :: ys, h, h2 => by
    have h0 := h2 0 (by simp)
    simp only [List.getD_cons_zero] at h0
    simp only [eqBy, h0, Bool.true_and]
    exact eqBy_all f d xs ys (by simpa using h) fun k hk => by have := h2 (k + 1) (by simpa using hk); simpa using this

def sameC (x y : CaseD) : Bool := (decide (x.name = y.name) && (decide (x.form.letters = y.form.letters) && decide (x.form.clauses = y.form.clauses))) && decide (x.proof = y.proof)
def sameCL : List CaseD → List CaseD → Bool := eqBy sameC

end Go.Proofs.YtggpbekclegfoaaDoor

namespace Go.Proofs.YtggpbekclegfoaaDoor
open Go.RowKit

def F32 (b : Nat) : Value := .float .f32 b
def nan32 (x : Nat) : Bool := (Ieee.single.read x).isNaN
def fin32 (x : Nat) : Bool := match Ieee.single.read x with
  | .number .. => true
  | _ => false

theorem order_self (f : Ieee.Format) (x : Nat) (h : (f.read x).isNaN = false) : f.order x x = some .eq := by
  unfold Ieee.Format.order
  cases hr : f.read x with
  | nan a b => rw [hr] at h; simp [Ieee.Datum.isNaN] at h
  | infinity s => simp [Ieee.Datum.order]
  | number s m e => simp [Ieee.Datum.order]
theorem order_nanL (f : Ieee.Format) (x y : Nat) (h : (f.read x).isNaN = true) : f.order x y = none := by
  unfold Ieee.Format.order
  cases hr : f.read x with
  | nan a b => simp [Ieee.Datum.order]
  | infinity s => rw [hr] at h; simp [Ieee.Datum.isNaN] at h
  | number s m e => rw [hr] at h; simp [Ieee.Datum.isNaN] at h
theorem order_nanR (f : Ieee.Format) (x y : Nat) (h : (f.read y).isNaN = true) : f.order x y = none := by
  unfold Ieee.Format.order
  cases hr : f.read y with
  | nan a b => cases f.read x <;> simp [Ieee.Datum.order]
  | infinity s => rw [hr] at h; simp [Ieee.Datum.isNaN] at h
  | number s m e => rw [hr] at h; simp [Ieee.Datum.isNaN] at h

theorem sub_fin {x : Nat} (h : fin32 x = true) : Ieee.single.sub x x = some 0 := by
  unfold fin32 at h
  unfold Ieee.Format.sub
  cases hr : Ieee.single.read x with
  | nan a b => rw [hr] at h; simp at h
  | infinity s => rw [hr] at h; simp at h
  | number s m e =>
    have ht : Ieee.signed s m 0 + Ieee.signed (!s) m 0 = 0 := by cases s <;> simp [Ieee.signed] <;> omega
    simp only [Ieee.Datum.opposite, Ieee.Datum.sum, Option.map_some, Int.min_self, Int.sub_self, Int.toNat_zero, ht, if_true, Int.natAbs_zero]
    cases s <;> simp [Ieee.Format.write, Ieee.Format.nearest, Ieee.Format.word]
theorem sub_not {x : Nat} (h : fin32 x = false) : Ieee.single.sub x x = none := by
  unfold fin32 at h
  unfold Ieee.Format.sub
  cases hr : Ieee.single.read x with
  | nan a b => simp [Ieee.Datum.opposite, Ieee.Datum.sum]
  | infinity s => cases s <;> simp [Ieee.Datum.opposite, Ieee.Datum.sum]
  | number s m e => rw [hr] at h; simp at h

/-- The bits of a NaN that the tape names. -/
def tape32 (q : Question) (w : World) : Nat := q.cut (w.tape w.drawn q)
theorem nan_cut32 (t : Nat) : (Ieee.single.read ((t % 2) * 2 ^ 31 + 0x7f800000 + 1 + (t / 2) % (2 ^ 23 - 1))).isNaN = true := by
  have h1 : t % 2 < 2 := Nat.mod_lt _ (by decide)
  have h2 : (t / 2) % (2 ^ 23 - 1) < 2 ^ 23 - 1 := Nat.mod_lt _ (by decide)
  generalize t % 2 = s at h1 ⊢
  generalize (t / 2) % (2 ^ 23 - 1) = r at h2 ⊢
  have e : (s * 2 ^ 31 + 0x7f800000 + 1 + r) % 2147483648 = 0x7f800000 + 1 + r := by omega
  unfold Ieee.Format.read
  have c1 : Ieee.single.signWeight = 2147483648 := rfl
  have c2 : Ieee.single.binade = 8388608 := rfl
  have c3 : Ieee.single.infRung = 2139095040 := rfl
  simp only [c1, c2, c3, e]
  rw [if_neg (by omega), if_neg (by omega), if_neg (by omega)]
  rfl
theorem nan_cut64 (t : Nat) : (Ieee.double.read ((t % 2) * 2 ^ 63 + 0x7ff0000000000000 + 1 + (t / 2) % (2 ^ 52 - 1))).isNaN = true := by
  have h1 : t % 2 < 2 := Nat.mod_lt _ (by decide)
  have h2 : (t / 2) % (2 ^ 52 - 1) < 2 ^ 52 - 1 := Nat.mod_lt _ (by decide)
  generalize t % 2 = s at h1 ⊢
  generalize (t / 2) % (2 ^ 52 - 1) = r at h2 ⊢
  have e : (s * 2 ^ 63 + 0x7ff0000000000000 + 1 + r) % 9223372036854775808 = 0x7ff0000000000000 + 1 + r := by omega
  unfold Ieee.Format.read
  have c1 : Ieee.double.signWeight = 9223372036854775808 := rfl
  have c2 : Ieee.double.binade = 4503599627370496 := rfl
  have c3 : Ieee.double.infRung = 9218868437227405312 := rfl
  simp only [c1, c2, c3, e]
  rw [if_neg (by omega), if_neg (by omega), if_neg (by omega)]
  rfl

/-- A difference that is no number: a NaN that the tape names. -/
theorem run_sub_none {P : Program} (t : TypeId) (x y : Nat) (h : Ieee.single.sub x y = none) (w : World) :
    (binOp .sub t (.float .f32 x) (.float .f32 y)).run P w = .ok (.float .f32 (tape32 (.nanBits .f32 x y) w)) w.drew := by
  have h' : FloatKind.f32.format.sub x y = none := h
  simp [binOp, Op.floatArith, h', tape32, Question.forced, Result.andThen]
theorem tape32_nan (x y : Nat) (w : World) : (Ieee.single.read (tape32 (.nanBits .f32 x y) w)).isNaN = true := by
  unfold tape32
  exact nan_cut32 _
theorem run_sub_some {P : Program} (t : TypeId) (x y r : Nat) (h : Ieee.single.sub x y = some r) (w : World) :
    (binOp .sub t (.float .f32 x) (.float .f32 y)).run P w = .ok (.float .f32 r) w := run_float_arith w .sub t .f32 x y r h

end Go.Proofs.YtggpbekclegfoaaDoor

namespace Go.Proofs.YtggpbekclegfoaaDoor
open Go.RowKit

def RdF (w : World) (v : Value) (xs : List Nat) : Prop := Slc w v (xs.map F32)
def OwnF (lo hi : Nat) (w : World) (v : Value) (xs : List Nat) : Prop := w.ownsRow lo 83 1 v xs.length (xs.map F32) ∧ ∀ g, v.ownBlock = some g → g < hi
def bulkF (xs : List Nat) : Nat := xs.length

theorem RdF.shape {w : World} {v : Value} {xs : List Nat} (h : RdF w v xs) : ∃ a c, v = .slice a xs.length c := by
  obtain ⟨a, c, e⟩ := Slc.shape h; exact ⟨a, c, by simpa using e⟩
theorem RdF.up {w w' : World} {v : Value} {xs : List Nat} {B : Nat} (h : RdF w v xs) (hb : Below B w w') (hB : w.heap.size ≤ B) : RdF w' v xs := Slc.below h hb hB
theorem RdF.at {w : World} {a : Option Addr} {n c : Nat} {xs : List Nat} (h : RdF w (.slice a n c) xs) {i : Nat} (hi : i < xs.length) :
    ∃ b off, a = some ⟨b, off, none⟩ ∧ b < w.heap.size ∧ w.cell? ⟨b, off + i, none⟩ = some (.float .f32 (xs.getD i 0)) := Slc.at h (by simp [F32, hi])
theorem RdF.len {w : World} {v : Value} {xs : List Nat} (h : RdF w v xs) : xs.length ≤ maxLen := by simpa using Slc.len h
theorem RdF.drewN {w : World} {v : Value} {xs : List Nat} (h : RdF w v xs) (n : Nat) : RdF (w.drewN n) v xs := Slc.drewN h n
theorem OwnF.rd {lo hi : Nat} {w : World} {v : Value} {xs : List Nat} (h : OwnF lo hi w v xs) : RdF w v xs := slc_of_owns h.1
theorem OwnF.up {lo hi : Nat} {w w' : World} {v : Value} {xs : List Nat} {B : Nat} (h : OwnF lo hi w v xs) (hb : Below B w w') (hB : w.heap.size ≤ B) : OwnF lo hi w' v xs := ⟨owns_below h.1 hb hB, h.2⟩
theorem OwnF.wide {lo hi lo' hi' : Nat} {w : World} {v : Value} {xs : List Nat} (h : OwnF lo hi w v xs) (h1 : lo' ≤ lo) (h2 : hi ≤ hi') : OwnF lo' hi' w v xs := ⟨owns_base h.1 h1, fun g hg => Nat.lt_of_lt_of_le (h.2 g hg) h2⟩
theorem OwnF.kept {lo hi : Nat} {w w' : World} {v : Value} {xs : List Nat} {S : Nat → Prop} (h : OwnF lo hi w v xs) (hk : Kept S w w') (hs : ∀ b, lo ≤ b → b < hi → ¬ S b) : OwnF lo hi w' v xs :=
  ⟨owns_kept h.1 hk fun g hg => hs g (owns_lt h.1 hg).1 (h.2 g hg), h.2⟩
theorem OwnF.mk {lo : Nat} {w : World} {v : Value} {n : Nat} {xs : List Nat} (h : w.ownsRow lo 83 1 v n (xs.map F32)) : OwnF lo w.heap.size w v xs := by
  obtain rfl : xs.length = n := by simpa using owns_len h
  exact ⟨h, fun g hg => (owns_lt h hg).2⟩

set_option maxHeartbeats 400000 in
theorem szF_any (v : Value) (xs : List Nat) (left : Int) (w : World) (h : RdF w v xs) (h1 : left ≤ 1048576) (h0 : 0 ≤ left) :
    Calls Tryd.prog 31 #[v, .int .i64 left] w fun e w' => ∃ r : Int, e = .returned (.int .i64 r) ∧ -1 ≤ r ∧ r ≤ left ∧ (0 ≤ r → (bulkF xs : Int) ≤ left - r) ∧ Below w.heap.size w w' := by
  obtain ⟨a, c, rfl⟩ := h.shape
  have hn := h.len
  unfold maxLen at hn
  unfold bulkF
  have HB : Hid (Below w.heap.size w w) := Below.refl _ _
  clear h
  by_cases h : left - xs.length < 0
  · go_enter Tryd.func31, Tryd.ntmps31
    go_wp2
    go_ret
    exact ⟨-1, rfl, by omega, by omega, by omega, HB.out⟩
  · go_enter Tryd.func31, Tryd.ntmps31
    go_wp2
    go_ret
    exact ⟨_, rfl, by omega, by omega, by omega, HB.out⟩

theorem Tryd.infoF32 : (Tryd.prog.info? 83).map (fun i => (i.zero, i.size, i.bytes)) = some (some (.float .f32 0), 1, 4) := by kernel_rfl

theorem fill_f {xs : List Nat} {k : Nat} {x : Nat} (hk : k < xs.length) (hx : x = xs.getD k 0) :
    ((xs.take k ++ List.replicate (xs.length - k) 0).map F32).set k (.float .f32 x) = (xs.take (k + 1) ++ List.replicate (xs.length - (k + 1)) 0).map F32 := by
  subst hx
  have e : List.replicate (xs.length - k) (0 : Nat) = 0 :: List.replicate (xs.length - (k + 1)) 0 := by
    rw [show xs.length - k = (xs.length - (k + 1)) + 1 by omega, List.replicate_succ]
  rw [e, List.take_succ_eq_append_getElem hk, List.map_append, List.map_cons, set_mid _ _ _ _ _ (by simp; omega), List.map_append, List.map_append, List.append_assoc, show xs.getD k 0 = xs[k] from by simp [hk]]
  rfl

@[go_sem] theorem run_store_float (P : Program) (w : World) (a : Addr) (m : Mode) (k : FloatKind) (n : Nat) : (store a (.float k n) m).run P w = stored P w a (.float k n) m := run_store P w a _ m rfl

set_option maxHeartbeats 400000 in
theorem toF_any (v : Value) (xs : List Nat) (w : World) (h : RdF w v xs) (hb : bulkF xs ≤ 1048576) :
    Calls Tryd.prog 34 #[v] w fun e w' => ∃ v', e = .returned v' ∧ OwnF w.heap.size w'.heap.size w' v' xs ∧ Below w.heap.size w w' := by
  obtain ⟨i0, hi, hz0, hz1, hz2⟩ := info_parts Tryd.infoF32
  obtain ⟨a, cap, rfl⟩ := h.shape
  unfold bulkF at hb
  have HS := Lib.hid h
  clear h
  go_enter Tryd.func34, Tryd.ntmps34
  go_wp2_with (at_make; refine wpList_make_full _ rfl _ _ 30 rfl w.heap.size 83 i0 (.float .f32 0) 1 Tryd.underlying30 hi hz0 hz1 .i64 .i64 xs.length xs.length xs.length rfl rfl rfl rfl (by rw [hz2]; omega) (by unfold maxLen; omega) (by simp) ?_; intro w1 hown hgrow)
  have hb1 : Below w.heap.size w w1 := (Below.refl _ _).grown hgrow (Nat.le_refl _) (by intro k hk; cases hk)
  have hz : (madeCells (Value.float .f32 0).cells (xs.length * 1)).toList = (List.replicate xs.length (0 : Nat)).map F32 := by
    simpa [Value.cells, F32] using toList_madeCells_one (Value.float .f32 0) xs.length
  rw [hz] at hown
  have HO := Lib.hid hown
  have HB := Lib.hid hb1
  clear hown hb1 hz hgrow
  go_loopw [4] (fun i wr => ∃ k : Nat, i = .int .i64 k ∧ k ≤ xs.length ∧ wr.ownsRow w.heap.size 83 1 (.slice (some ⟨w.heap.size, 0, none⟩) xs.length xs.length) xs.length ((xs.take k ++ List.replicate (xs.length - k) 0).map F32) ∧ Below w.heap.size w wr) (fun i _ => xs.length - (intOf i).toNat)
  case atStart => exact ⟨0, rfl, Nat.zero_le _, by simpa using HO.out, HB.out⟩
  case round =>
    obtain ⟨k, rfl, hk, hown, hbel⟩ := hrel
    have HO1 := Lib.hid hown
    have HB1 := Lib.hid hbel
    clear hown hbel
    by_cases hlt : k < xs.length
    · obtain ⟨b, off, rfl, hb0, hc⟩ := (HS.out.up HB1.out (Nat.le_refl _)).at hlt
      have hd := HO1.out.cellAt k (by omega)
      have hfr := HO1.out.frozenAt k
      have hdl : ((xs.take k ++ List.replicate (xs.length - k) 0).map F32)[k]? = some (.float .f32 0) := by
        rw [List.getElem?_map, List.getElem?_append_right (by simp; omega)]
        simp [F32, List.getElem?_replicate]
        omega
      rw [hdl] at hd
      obtain ⟨x, hx⟩ : ∃ x, x = xs.getD k 0 := ⟨_, rfl⟩
      rw [← hx] at hc
      have HX := Lib.hid hx
      clear hx hdl
      go_wp2_with fail
      go_roundw
      case rel =>
        refine ⟨k + 1, by go_num, by omega, ?_, HB1.out.setCell (Nat.le_refl _) _⟩
        have h1 := (HO1.out.stored k (.float .f32 x)).1
        rw [fill_f hlt HX.out] at h1
        exact h1
      case measure => simp [intOf]; omega
    · obtain rfl : k = xs.length := by omega
      go_wp2_with fail
      go_ret
      exact ⟨_, rfl, OwnF.mk (by simpa using HO1.out), HB1.out⟩

/-! ### The same number -/

theorem zero_div {r : Nat} (h : Ieee.double.order r 0 = some .eq) : ∃ q, Ieee.double.div 4607182418800017408 r = some q := by
  have e1 : Ieee.double.read 4607182418800017408 = .number false 4503599627370496 (-52) := by decide +kernel
  have e0 : Ieee.double.read 0 = .number false 0 (-1074) := by decide +kernel
  unfold Ieee.Format.order at h
  unfold Ieee.Format.div
  rw [e1]
  rw [e0] at h
  cases hr : Ieee.double.read r with
  | nan a b => rw [hr] at h; simp [Ieee.Datum.order] at h
  | infinity s => rw [hr] at h; cases s <;> simp [Ieee.Datum.order] at h
  | number s m e =>
    by_cases hm : m = 0
    · subst hm; simp [Ieee.Datum.quotient]
    · simp [Ieee.Datum.quotient, hm]

set_option maxHeartbeats 1000000 in
theorem sameFloat_self (r : Nat) (hn : (Ieee.double.read r).isNaN = false) (w : World) :
    Calls Tryd.prog 68 #[.float .f64 r, .float .f64 r] w fun e w' => e = .returned (.bool true) ∧ w = w' := by
  have ho : (FloatKind.f64.format.order r r != some .eq) = false := by simp [show FloatKind.f64.format.order r r = some .eq from order_self _ _ hn]
  have ho2 : (FloatKind.f64.format.order r r == some .eq) = true := by simp [show FloatKind.f64.format.order r r = some .eq from order_self _ _ hn]
  by_cases hz : Ieee.double.order r 0 = some .eq
  · obtain ⟨q, hq⟩ := zero_div hz
    have hq2 := fun (W : World) => run_float_arith (P := Tryd.prog) W .quo 100 .f64 4607182418800017408 r q hq
    have hz1 : (FloatKind.f64.format.order r 0 == some .eq) = true := by simp [show FloatKind.f64.format.order r 0 = some .eq from hz]
    clear hz hq
    go_enter Tryd.func68, Tryd.ntmps68
    go_wp2_with fail
    go_ret
    exact ⟨by simp, rfl⟩
  · have hz1 : (FloatKind.f64.format.order r 0 == some .eq) = false := by simp [show ¬ FloatKind.f64.format.order r 0 = some .eq from hz]
    clear hz
    go_enter Tryd.func68, Tryd.ntmps68
    go_wp2_with fail
    go_ret
    exact ⟨rfl, rfl⟩

set_option maxHeartbeats 1000000 in
theorem sameFloat_nan (a b : Nat) (ha : (Ieee.double.read a).isNaN = true) (hb : (Ieee.double.read b).isNaN = true) (w : World) :
    Calls Tryd.prog 68 #[.float .f64 a, .float .f64 b] w fun e w' => e = .returned (.bool true) ∧ w = w' := by
  have h1 : (FloatKind.f64.format.order a a != some .eq) = true := by simp [show FloatKind.f64.format.order a a = none from order_nanL _ _ _ ha]
  have h2 : (FloatKind.f64.format.order b b != some .eq) = true := by simp [show FloatKind.f64.format.order b b = none from order_nanL _ _ _ hb]
  go_enter Tryd.func68, Tryd.ntmps68
  go_wp2_with fail
  go_ret
  exact ⟨rfl, rfl⟩

end Go.Proofs.YtggpbekclegfoaaDoor
