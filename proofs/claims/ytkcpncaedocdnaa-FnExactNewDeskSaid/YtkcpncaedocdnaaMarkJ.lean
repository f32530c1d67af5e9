/-
  Jobs: compared, marked, held.
-/
import Derived.Test.YtkcpncaedocdnaaJobs
import Derived.Deep.RegionHeld3
namespace Go.Proofs.Ytkcpncaedocdnaa
open Go.RowKit

def jobV (j : JobD) : Value := .agg #[.int .i64 j.long, .int .i64 j.due, .int .i64 j.weight, .int .i64 j.ready]

set_option maxHeartbeats 1000000 in
theorem eqJob_same (j : JobD) (w : World) :
    Calls Try.prog 147 #[jobV j, jobV j] w fun e w' => e = .returned (.bool true) ∧ Below w.heap.size w w' := by
  obtain ⟨a, b, c, d⟩ := j
  have h1 : (a != a) = false := by simp
  have h2 : (b != b) = false := by simp
  have h3 : (c != c) = false := by simp
  have h4 : (d != d) = false := by simp
  unfold jobV
  simp only
  go_enter Try.func147, Try.ntmps147
  go_wp2_with fail
  go_ret
  exact ⟨rfl, by (repeat' first | exact Below.refl _ _ | assumption | refine Below.alloc ?_ ?_ _ | refine Below.setCell ?_ ?_ _ | refine Below.drew ?_ | (simp; done) | (simp; omega))⟩

set_option maxHeartbeats 1000000 in
set_option maxRecDepth 4000 in
theorem eqJ_same (v v' : Value) (js : List JobD) (w : World) (h : RdJ w v js) (h' : RdJ w v' js) :
    Calls Try.prog 122 #[v, v'] w fun e w' => e = .returned (.bool true) ∧ Below w.heap.size w w' := by
  obtain ⟨a, c, rfl⟩ := h.shape
  obtain ⟨a', c', rfl⟩ := h'.shape
  have hl := h.len
  unfold maxLen at hl
  have hne : ((js.length : Int) != (js.length : Int)) = false := by simp
  have HS := Lib.hid h
  have HS' := Lib.hid h'
  clear h h'
  go_enter Try.func122, Try.ntmps122
  go_wp2_with fail
  go_loopw [5] (fun i wr => ∃ k : Nat, i = .int .i64 k ∧ k ≤ js.length ∧ Below w.heap.size w wr) (fun i _ => js.length - (intOf i).toNat)
  case atStart => exact ⟨0, rfl, Nat.zero_le _, Below.refl _ _⟩
  case round =>
    obtain ⟨k, rfl, hk, hbl⟩ := hrel
    have HB := Lib.hid hbl
    clear hbl
    by_cases hlt : k < js.length
    · obtain ⟨b, off, rfl, hb0, x0, x1, x2, x3⟩ := (HS.out.up HB.out (Nat.le_refl _)).at hlt
      obtain ⟨b', off', rfl, hb0', y0, y1, y2, y3⟩ := (HS'.out.up HB.out (Nat.le_refl _)).at hlt
      obtain ⟨j, hj⟩ : ∃ j, j = js.getD k J0 := ⟨_, rfl⟩
      rw [← hj] at x0 x1 x2 x3 y0 y1 y2 y3
      have HE := Lib.hid (eqJob_same j)
      obtain ⟨p, q, r, s⟩ := j
      simp only at x0 x1 x2 x3 y0 y1 y2 y3
      clear hj
      have kk : (k : Int) < (js.length : Int) := by omega
      have HKEEP := Lib.hid (show ∀ X, Below wr.heap.size wr X → (fun X => X.cell? ⟨b, off + k * 4, none⟩ = some (.int .i64 p) ∧ X.cell? ⟨b, off + k * 4 + 1, none⟩ = some (.int .i64 q) ∧ X.cell? ⟨b, off + k * 4 + 2, none⟩ = some (.int .i64 r) ∧ X.cell? ⟨b, off + k * 4 + 3, none⟩ = some (.int .i64 s) ∧ X.cell? ⟨b', off' + k * 4, none⟩ = some (.int .i64 p) ∧ X.cell? ⟨b', off' + k * 4 + 1, none⟩ = some (.int .i64 q) ∧ X.cell? ⟨b', off' + k * 4 + 2, none⟩ = some (.int .i64 r) ∧ X.cell? ⟨b', off' + k * 4 + 3, none⟩ = some (.int .i64 s)) X from fun X hb => ⟨held_of hb x0 (Nat.le_refl _), held_of hb x1 (Nat.le_refl _), held_of hb x2 (Nat.le_refl _), held_of hb x3 (Nat.le_refl _), held_of hb y0 (Nat.le_refl _), held_of hb y1 (Nat.le_refl _), held_of hb y2 (Nat.le_refl _), held_of hb y3 (Nat.le_refl _)⟩)
      go_wp2_with fail
      go_region_held3 (fun X => X.cell? ⟨b, off + k * 4, none⟩ = some (.int .i64 p) ∧ X.cell? ⟨b, off + k * 4 + 1, none⟩ = some (.int .i64 q) ∧ X.cell? ⟨b, off + k * 4 + 2, none⟩ = some (.int .i64 r) ∧ X.cell? ⟨b, off + k * 4 + 3, none⟩ = some (.int .i64 s) ∧ X.cell? ⟨b', off' + k * 4, none⟩ = some (.int .i64 p) ∧ X.cell? ⟨b', off' + k * 4 + 1, none⟩ = some (.int .i64 q) ∧ X.cell? ⟨b', off' + k * 4 + 2, none⟩ = some (.int .i64 r) ∧ X.cell? ⟨b', off' + k * 4 + 3, none⟩ = some (.int .i64 s))
        (first | exact HKEEP.out _ hbn | (refine HKEEP.out _ ?_; (repeat' first | exact Below.refl _ _ | assumption | refine Below.alloc ?_ ?_ _ | refine Below.setCell ?_ ?_ _ | refine Below.drew ?_ | (simp; done) | (simp; omega)); done) | go_keep)
        (first
          | (go_at_call 147; refine (HE.out _).mono ?_; rintro e w1 ⟨rfl, hb1⟩; have hbn : Below wr.heap.size wr w1 := Below.trans (by (repeat' first | exact Below.refl _ _ | assumption | refine Below.alloc ?_ ?_ _ | refine Below.setCell ?_ ?_ _ | refine Below.drew ?_ | (simp; done) | (simp; omega))) (hb1.mono (by simp)))
          | fail)
      go_wp2_with fail
      go_roundw
      case rel => exact ⟨k + 1, by go_num, by omega, HB.out.trans (hbn.mono HB.out.size)⟩
      case measure => simp [intOf]; omega
    · obtain rfl : k = js.length := by omega
      go_wp2_with fail
      go_ret
      exact ⟨rfl, HB.out⟩

/-- The marks of jobs. -/
def mkdJ (k : Int) (js : List JobD) : List JobD := (List.range js.length).map fun (i : Nat) => ⟨k + 4 * i, k + 4 * i + 1, k + 4 * i + 2, k + 4 * i + 3⟩
theorem mkdJ_len (k : Int) (js : List JobD) : (mkdJ k js).length = js.length := by simp [mkdJ]
theorem mkdJ_at (k : Int) (js : List JobD) (i : Nat) (h : i < js.length) : (mkdJ k js).getD i J0 = ⟨k + 4 * i, k + 4 * i + 1, k + 4 * i + 2, k + 4 * i + 3⟩ := by simp [mkdJ, h]

set_option maxHeartbeats 1000000 in
theorem heldJ_o (v : Value) (js : List JobD) (k : Int) (w : World) (h : RdJ w v (mkdJ k js)) (h0 : 0 ≤ k) (h1 : k + cntJ js ≤ 1099511627776) :
    Calls Try.prog 124 #[v, .int .i64 k] w fun e w' => e = .returned (.int .i64 (k + cntJ js)) ∧ Below w.heap.size w w' := by
  obtain ⟨a, c, rfl⟩ := h.shape
  have hl := h.len
  unfold maxLen at hl
  rw [mkdJ_len] at hl ⊢
  have HS := Lib.hid h
  rw [mkdJ_len] at HS
  obtain ⟨n, hn⟩ : ∃ n, n = js.length := ⟨_, rfl⟩
  unfold cntJ at h1 ⊢
  rw [← hn] at hl HS h1 ⊢
  have HN := Lib.hid hn
  clear h hn
  go_enter Try.func124, Try.ntmps124
  go_wp2_with fail
  go_loopw [1, 5] (fun kk i wr => ∃ j : Nat, i = .int .i64 j ∧ j ≤ n ∧ kk = .int .i64 (k + 4 * j) ∧ Below w.heap.size w wr) (fun _ i _ => n - (intOf i).toNat)
  case atStart => exact ⟨0, rfl, Nat.zero_le _, by simp, Below.refl _ _⟩
  case round =>
    obtain ⟨j, rfl, hj, rfl, hbl⟩ := hrel
    have HB := Lib.hid hbl
    clear hbl
    by_cases hlt : j < n
    · obtain ⟨b, off, rfl, hb0, x0, x1, x2, x3⟩ := (HS.out.up HB.out (Nat.le_refl _)).at (i := j) (by rw [mkdJ_len]; have := HN.out; omega)
      rw [mkdJ_at k js j (by have := HN.out; omega)] at x0 x1 x2 x3
      simp only at x0 x1 x2 x3
      obtain ⟨q, hq⟩ : ∃ q, q = k + 4 * (j : Int) := ⟨_, rfl⟩
      have hq0 : 0 ≤ q := by omega
      have hq1 : q + 4 ≤ 1099511627776 := by omega
      rw [← hq] at x0 x1 x2 x3 ⊢
      have HQ := Lib.hid hq
      clear hq
      have g0 : (q != q) = false := by simp
      have g1 : (q + 1 != q + 1) = false := by simp
      have g2 : (q + 2 != q + 2) = false := by simp
      have g3 : (q + 3 != q + 3) = false := by simp
      have s1 : q + 1 + 1 = q + 2 := by omega
      have s2 : q + 2 + 1 = q + 3 := by omega
      go_wp2_with fail
      go_roundw
      case rel => exact ⟨j + 1, by go_num, by omega, congrArg (Value.int IntKind.i64) (by have := HQ.out; push_cast; omega), HB.out⟩
      case measure => simp [intOf]; omega
    · obtain rfl : j = n := by omega
      go_wp2_with fail
      go_ret
      exact ⟨congrArg (fun x => Ending.returned (Value.int IntKind.i64 x)) (by push_cast; omega), HB.out⟩

/-- The first m jobs marked. -/
def mkpJ (k : Int) (js : List JobD) (m : Nat) : List JobD := (List.range js.length).map fun (i : Nat) => if i < m then ⟨k + 4 * i, k + 4 * i + 1, k + 4 * i + 2, k + 4 * i + 3⟩ else js.getD i J0
theorem mkpJ_len (k : Int) (js : List JobD) (m : Nat) : (mkpJ k js m).length = js.length := by simp [mkpJ]
theorem mkpJ_zero (k : Int) (js : List JobD) : mkpJ k js 0 = js := by
  apply List.ext_getElem?
  intro i
  by_cases h : i < js.length
  · simp [mkpJ, h]
  · simp [mkpJ, h]
theorem mkpJ_full (k : Int) (js : List JobD) : mkpJ k js js.length = mkdJ k js := by
  apply List.ext_getElem?
  intro i
  by_cases h : i < js.length
  · simp [mkpJ, mkdJ, h]
  · simp [mkpJ, mkdJ, h]
theorem mkpJ_set (k : Int) (js : List JobD) (m : Nat) (hm : m < js.length) : mkpJ k js (m + 1) = (mkpJ k js m).set m ⟨k + 4 * m, k + 4 * m + 1, k + 4 * m + 2, k + 4 * m + 3⟩ := by
  apply List.ext_getElem?
  intro i
  rw [List.getElem?_set]
  by_cases h : i < js.length
  · by_cases he : m = i
    · subst he; simp [mkpJ, h]
    · have e : (i < m + 1) = (i < m) := by rw [eq_iff_iff]; omega
      simp [mkpJ, h, he, e]
  · by_cases he : m = i
    · omega
    · simp [mkpJ, h, he]
theorem jobsC_set : ∀ (js : List JobD) (i : Nat) (a b c d : Int), i < js.length → ((((jobsC js).set (i * 4) (I64 a)).set (i * 4 + 1) (I64 b)).set (i * 4 + 2) (I64 c)).set (i * 4 + 3) (I64 d) = jobsC (js.set i ⟨a, b, c, d⟩)
  | [], i, _, _, _, _, h => by simp at h
  | j :: r, 0, a, b, c, d, _ => by simp [jobsC, jobCells]
  | j :: r, i + 1, a, b, c, d, h => by
    have ih := jobsC_set r i a b c d (by simpa using h)
    have e : ∀ (L : List Value) (n m : Nat) (v : Value), m = n + 4 → (jobCells j ++ L).set m v = jobCells j ++ L.set n v := fun L n m v hm => by subst hm; rfl
    show ((((jobCells j ++ jobsC r).set ((i + 1) * 4) (I64 a)).set ((i + 1) * 4 + 1) (I64 b)).set ((i + 1) * 4 + 2) (I64 c)).set ((i + 1) * 4 + 3) (I64 d) = jobCells j ++ jobsC (r.set i ⟨a, b, c, d⟩)
    rw [e _ (i * 4) _ _ (by omega), e _ (i * 4 + 1) _ _ (by omega), e _ (i * 4 + 2) _ _ (by omega), e _ (i * 4 + 3) _ _ (by omega), ih]

theorem ownsK_some {w : World} {lo size : Nat} {e : TypeId} {a : Option Addr} {n cap : Nat} {vs : List Value} (h : w.ownsRow lo e size (.slice a n cap) n vs) (hn : 0 < n) : ∃ g, a = some ⟨g, 0, none⟩ ∧ lo ≤ g := by
  rcases h.2 with ⟨e, e2⟩ | ⟨g, cap', cur, e, hb, _⟩
  · simp at e; omega
  · simp only [Value.slice.injEq, true_and] at e
    exact ⟨g, e.1, hb⟩

set_option maxHeartbeats 1000000 in
theorem markJ_o (v : Value) (lo hi : Nat) (js : List JobD) (k : Int) (w : World) (ho : OwnJ lo hi w v js) (h0 : 0 ≤ k) (h1 : k + cntJ js ≤ 1099511627776) :
    Calls Try.prog 123 #[v, .int .i64 k] w fun e w' => e = .returned (.int .i64 (k + cntJ js)) ∧ OwnJ lo hi w' v (mkdJ k js) ∧ Kept (fun b => lo ≤ b ∧ b < hi) w w' := by
  obtain ⟨a, c, rfl⟩ := ho.rd.shape
  have hl := ho.rd.len
  unfold maxLen at hl
  unfold cntJ at h1 ⊢
  have HO := Lib.hid ho
  clear ho
  go_enter Try.func123, Try.ntmps123
  go_wp2_with fail
  go_loopw [1, 5] (fun kk i wr => ∃ j : Nat, i = .int .i64 j ∧ j ≤ js.length ∧ kk = .int .i64 (k + 4 * j) ∧ wr.ownsRow lo 138 4 (.slice a js.length c) js.length (jobsC (mkpJ k js j)) ∧ Kept (fun b => lo ≤ b ∧ b < hi) w wr) (fun _ i _ => js.length - (intOf i).toNat)
  case atStart => exact ⟨0, rfl, Nat.zero_le _, by simp, by rw [mkpJ_zero]; exact HO.out.1, Kept.refl _ _⟩
  case round =>
    obtain ⟨j, rfl, hj, rfl, hown, hkp⟩ := hrel
    have HO1 := Lib.hid hown
    have HK1 := Lib.hid hkp
    clear hkp
    by_cases hlt : j < js.length
    · obtain ⟨g, rfl, hlo⟩ := ownsK_some hown (by omega)
      have hhi := HO.out.2 g rfl
      clear hown
      have hlen := mkpJ_len k js j
      have d0 := HO1.out.cellAt (j * 4) (by omega)
      have d1 := HO1.out.cellAt (j * 4 + 1) (by omega)
      have d2 := HO1.out.cellAt (j * 4 + 2) (by omega)
      have d3 := HO1.out.cellAt (j * 4 + 3) (by omega)
      have e0 := jobsC_at (mkpJ k js j) j 0 (by omega) (by omega)
      rw [Nat.add_zero] at e0
      rw [e0] at d0
      rw [jobsC_at (mkpJ k js j) j 1 (by omega) (by omega)] at d1
      rw [jobsC_at (mkpJ k js j) j 2 (by omega) (by omega)] at d2
      rw [jobsC_at (mkpJ k js j) j 3 (by omega) (by omega)] at d3
      generalize (mkpJ k js j).getD j J0 = old at d0 d1 d2 d3
      simp only [jobCells, List.getElem?_cons_zero, List.getElem?_cons_succ, I64] at d0 d1 d2 d3
      have f0 := HO1.out.frozenAt (j * 4)
      have f1 := HO1.out.frozenAt (j * 4 + 1)
      have f2 := HO1.out.frozenAt (j * 4 + 2)
      have f3 := HO1.out.frozenAt (j * 4 + 3)
      have HST := Lib.hid ((((HO1.out.stored (j * 4) (.int .i64 (k + 4 * j))).1.stored (j * 4 + 1) (.int .i64 (k + 4 * j + 1))).1.stored (j * 4 + 2) (.int .i64 (k + 4 * j + 2))).1.stored (j * 4 + 3) (.int .i64 (k + 4 * j + 3))).1
      have HSET := Lib.hid (mkpJ_set k js j hlt)
      have HJC := Lib.hid (jobsC_set (mkpJ k js j) j (k + 4 * j) (k + 4 * j + 1) (k + 4 * j + 2) (k + 4 * j + 3) (by omega))
      clear e0 hlen
      have s1 : k + 4 * (j : Int) + 1 + 1 = k + 4 * (j : Int) + 2 := by omega
      have s2 : k + 4 * (j : Int) + 2 + 1 = k + 4 * (j : Int) + 3 := by omega
      go_wp2_with fail
      go_roundw
      case rel =>
        refine ⟨j + 1, by go_num, by omega, congrArg (Value.int IntKind.i64) (by push_cast; omega), ?_, (((HK1.out.setCell (.inr ⟨hlo, hhi⟩) _).setCell (.inr ⟨hlo, hhi⟩) _).setCell (.inr ⟨hlo, hhi⟩) _).setCell (.inr ⟨hlo, hhi⟩) _⟩
        rw [HSET.out, ← HJC.out]
        exact HST.out
      case measure => simp [intOf]; omega
    · clear hown
      obtain rfl : j = js.length := by omega
      go_wp2_with fail
      go_ret
      refine ⟨congrArg (fun x => Ending.returned (Value.int IntKind.i64 x)) (by push_cast; omega), ⟨?_, HO.out.2⟩, HK1.out⟩
      have h := HO1.out
      rw [mkpJ_full] at h
      rw [mkdJ_len]
      exact h

end Go.Proofs.Ytkcpncaedocdnaa
