/-
  FnExactWholesShared: texts joined: MarkJ, MarkRL, LFnExactWholesShared.
-/
import Derived.Deep.RegionHeld3
import Derived.Deep.Cut
import Derived.Test.YtkmbkjbammpdhaaMEWholesSharedAJ
import Derived.Test.YtkmbkjbammpdhaaMEWholesSharedAK
namespace Go.Proofs.Ytkmbkjbammpdhaa
open Go.RowKit

def jobV (j : JobD) : Value := .agg #[.int .i64 j.long, .int .i64 j.due, .int .i64 j.weight, .int .i64 j.ready]

set_option maxHeartbeats 1000000 in
theorem eqJob_same (j : JobD) (w : World) :
    Calls Try.prog 125 #[jobV j, jobV j] w fun e w' => e = .returned (.bool true) ∧ Below w.heap.size w w' := by
  obtain ⟨a, b, c, d⟩ := j
  have h1 : (a != a) = false := by simp
  have h2 : (b != b) = false := by simp
  have h3 : (c != c) = false := by simp
  have h4 : (d != d) = false := by simp
  unfold jobV
  simp only
  go_enter Try.func125, Try.ntmps125
  go_wp2_with fail
  go_ret
  exact ⟨rfl, by (repeat' first | exact Below.refl _ _ | assumption | refine Below.alloc ?_ ?_ _ | refine Below.setCell ?_ ?_ _ | refine Below.drew ?_ | (simp; done) | (simp; omega))⟩

set_option maxHeartbeats 1000000 in
set_option maxRecDepth 4000 in
theorem eqJ_same (v v' : Value) (js : List JobD) (w : World) (h : RdJ w v js) (h' : RdJ w v' js) :
    Calls Try.prog 43 #[v, v'] w fun e w' => e = .returned (.bool true) ∧ Below w.heap.size w w' := by
  obtain ⟨a, c, rfl⟩ := h.shape
  obtain ⟨a', c', rfl⟩ := h'.shape
  have hl := h.len
  unfold maxLen at hl
  have hne : ((js.length : Int) != (js.length : Int)) = false := by simp
  have HS := Lib.hid h
  have HS' := Lib.hid h'
  clear h h'
  go_enter Try.func43, Try.ntmps43
  go_wp2_with fail
  go_loopw [5] (fun i wr => ∃ k : Nat, i = .int .i64 k ∧ k ≤ js.length ∧ Below w.heap.size w wr) (fun i _ => js.length - (intOf i).toNat)
  case atStart => exact ⟨0, rfl, Nat.zero_le _, Below.refl _ _⟩
  case round =>
    obtain ⟨k, rfl, hk, hbl⟩ := hrel
    have HB := Lib.hid hbl
    clear hbl
    by_cases hlt : k < js.length
    · obtain ⟨b, off, rfl, hb0, x0, x1, x2, x3⟩ := (HS.out.up HB.out (Nat.le_refl _)).at hlt
      obtain ⟨b', off', rfl, hb0', y0, y1, y2, y3⟩ := (HS'.out.up HB.out (Nat.le_refl _)).at hlt
      obtain ⟨j, hj⟩ : ∃ j, j = js.getD k J0 := ⟨_, rfl⟩
      rw [← hj] at x0 x1 x2 x3 y0 y1 y2 y3
      have HE := Lib.hid (eqJob_same j)
      obtain ⟨p, q, r, s⟩ := j
      simp only at x0 x1 x2 x3 y0 y1 y2 y3
      clear hj
      have kk : (k : Int) < (js.length : Int) := by omega
      have HKEEP := Lib.hid (show ∀ X, Below wr.heap.size wr X → (fun X => X.cell? ⟨b, off + k * 4, none⟩ = some (.int .i64 p) ∧ X.cell? ⟨b, off + k * 4 + 1, none⟩ = some (.int .i64 q) ∧ X.cell? ⟨b, off + k * 4 + 2, none⟩ = some (.int .i64 r) ∧ X.cell? ⟨b, off + k * 4 + 3, none⟩ = some (.int .i64 s) ∧ X.cell? ⟨b', off' + k * 4, none⟩ = some (.int .i64 p) ∧ X.cell? ⟨b', off' + k * 4 + 1, none⟩ = some (.int .i64 q) ∧ X.cell? ⟨b', off' + k * 4 + 2, none⟩ = some (.int .i64 r) ∧ X.cell? ⟨b', off' + k * 4 + 3, none⟩ = some (.int .i64 s)) X from fun X hb => ⟨held_of hb x0 (Nat.le_refl _), held_of hb x1 (Nat.le_refl _), held_of hb x2 (Nat.le_refl _), held_of hb x3 (Nat.le_refl _), held_of hb y0 (Nat.le_refl _), held_of hb y1 (Nat.le_refl _), held_of hb y2 (Nat.le_refl _), held_of hb y3 (Nat.le_refl _)⟩)
      go_wp2_with fail
      go_region_held3 (fun X => X.cell? ⟨b, off + k * 4, none⟩ = some (.int .i64 p) ∧ X.cell? ⟨b, off + k * 4 + 1, none⟩ = some (.int .i64 q) ∧ X.cell? ⟨b, off + k * 4 + 2, none⟩ = some (.int .i64 r) ∧ X.cell? ⟨b, off + k * 4 + 3, none⟩ = some (.int .i64 s) ∧ X.cell? ⟨b', off' + k * 4, none⟩ = some (.int .i64 p) ∧ X.cell? ⟨b', off' + k * 4 + 1, none⟩ = some (.int .i64 q) ∧ X.cell? ⟨b', off' + k * 4 + 2, none⟩ = some (.int .i64 r) ∧ X.cell? ⟨b', off' + k * 4 + 3, none⟩ = some (.int .i64 s))
        (first | exact HKEEP.out _ hbn | (refine HKEEP.out _ ?_; (repeat' first | exact Below.refl _ _ | assumption | refine Below.alloc ?_ ?_ _ | refine Below.setCell ?_ ?_ _ | refine Below.drew ?_ | (simp; done) | (simp; omega)); done) | go_keep)
        (first
          | (go_at_call 125; refine (HE.out _).mono ?_; rintro e w1 ⟨rfl, hb1⟩; have hbn : Below wr.heap.size wr w1 := Below.trans (by (repeat' first | exact Below.refl _ _ | assumption | refine Below.alloc ?_ ?_ _ | refine Below.setCell ?_ ?_ _ | refine Below.drew ?_ | (simp; done) | (simp; omega))) (hb1.mono (by simp)))
          | fail)
      go_wp2_with fail
      go_roundw
      case rel => exact ⟨k + 1, by go_num, by omega, HB.out.trans (hbn.mono HB.out.size)⟩
      case measure => simp [intOf]; omega
    · obtain rfl : k = js.length := by omega
      go_wp2_with fail
      go_ret
      exact ⟨rfl, HB.out⟩

/-- The marks of jobs. -/
def mkdJ (k : Int) (js : List JobD) : List JobD := (List.range js.length).map fun (i : Nat) => ⟨k + 4 * i, k + 4 * i + 1, k + 4 * i + 2, k + 4 * i + 3⟩
theorem mkdJ_len (k : Int) (js : List JobD) : (mkdJ k js).length = js.length := by simp [mkdJ]
theorem mkdJ_at (k : Int) (js : List JobD) (i : Nat) (h : i < js.length) : (mkdJ k js).getD i J0 = ⟨k + 4 * i, k + 4 * i + 1, k + 4 * i + 2, k + 4 * i + 3⟩ := by simp [mkdJ, h]

/-- The first m jobs marked. -/
def mkpJ (k : Int) (js : List JobD) (m : Nat) : List JobD := (List.range js.length).map fun (i : Nat) => if i < m then ⟨k + 4 * i, k + 4 * i + 1, k + 4 * i + 2, k + 4 * i + 3⟩ else js.getD i J0
theorem mkpJ_len (k : Int) (js : List JobD) (m : Nat) : (mkpJ k js m).length = js.length := by simp [mkpJ]
theorem mkpJ_zero (k : Int) (js : List JobD) : mkpJ k js 0 = js := by
  apply List.ext_getElem?
  intro i
  by_cases h : i < js.length
  · simp [mkpJ, h]
  · simp [mkpJ, h]
theorem mkpJ_full (k : Int) (js : List JobD) : mkpJ k js js.length = mkdJ k js := by
  apply List.ext_getElem?
  intro i
  by_cases h : i < js.length
  · simp [mkpJ, mkdJ, h]
  · simp [mkpJ, mkdJ, h]
theorem mkpJ_set (k : Int) (js : List JobD) (m : Nat) (hm : m < js.length) : mkpJ k js (m + 1) = (mkpJ k js m).set m ⟨k + 4 * m, k + 4 * m + 1, k + 4 * m + 2, k + 4 * m + 3⟩ := by
  apply List.ext_getElem?
  intro i
  rw [List.getElem?_set]
  by_cases h : i < js.length
  · by_cases he : m = i
    · subst he; simp [mkpJ, h]
    · have e : (i < m + 1) = (i < m) := by rw [eq_iff_iff]; omega
      simp [mkpJ, h, he, e]
  · by_cases he : m = i
    · omega
    · simp [mkpJ, h, he]
theorem jobsC_set : ∀ (js : List JobD) (i : Nat) (a b c d : Int), i < js.length → ((((jobsC js).set (i * 4) (I64 a)).set (i * 4 + 1) (I64 b)).set (i * 4 + 2) (I64 c)).set (i * 4 + 3) (I64 d) = jobsC (js.set i ⟨a, b, c, d⟩)
  | [], i, _, _, _, _, h => by simp at h
  | j :: r, 0, a, b, c, d, _ => by simp [jobsC, jobCells]
  | j :: r, i + 1, a, b, c, d, h => by
    have ih := jobsC_set r i a b c d (by simpa using h)
    have e : ∀ (L : List Value) (n m : Nat) (v : Value), m = n + 4 → (jobCells j ++ L).set m v = jobCells j ++ L.set n v := fun L n m v hm => by subst hm; rfl
    show ((((jobCells j ++ jobsC r).set ((i + 1) * 4) (I64 a)).set ((i + 1) * 4 + 1) (I64 b)).set ((i + 1) * 4 + 2) (I64 c)).set ((i + 1) * 4 + 3) (I64 d) = jobCells j ++ jobsC (r.set i ⟨a, b, c, d⟩)
    rw [e _ (i * 4) _ _ (by omega), e _ (i * 4 + 1) _ _ (by omega), e _ (i * 4 + 2) _ _ (by omega), e _ (i * 4 + 3) _ _ (by omega), ih]

theorem ownsK_some {w : World} {lo size : Nat} {e : TypeId} {a : Option Addr} {n cap : Nat} {vs : List Value} (h : w.ownsRow lo e size (.slice a n cap) n vs) (hn : 0 < n) : ∃ g, a = some ⟨g, 0, none⟩ ∧ lo ≤ g := by
  rcases h.2 with ⟨e, e2⟩ | ⟨g, cap', cur, e, hb, _⟩
  · simp at e; omega
  · simp only [Value.slice.injEq, true_and] at e
    exact ⟨g, e.1, hb⟩

set_option maxHeartbeats 1000000 in
theorem markJ_o (v : Value) (lo hi : Nat) (js : List JobD) (k : Int) (w : World) (ho : OwnJ lo hi w v js) (h0 : 0 ≤ k) (h1 : k + cntJ js ≤ 1099511627776) :
    Calls Try.prog 44 #[v, .int .i64 k] w fun e w' => e = .returned (.int .i64 (k + cntJ js)) ∧ OwnJ lo hi w' v (mkdJ k js) ∧ Kept (fun b => lo ≤ b ∧ b < hi) w w' := by
  obtain ⟨a, c, rfl⟩ := ho.rd.shape
  have hl := ho.rd.len
  unfold maxLen at hl
  unfold cntJ at h1 ⊢
  have HO := Lib.hid ho
  clear ho
  go_enter Try.func44, Try.ntmps44
  go_wp2_with fail
  go_loopw [1, 5] (fun kk i wr => ∃ j : Nat, i = .int .i64 j ∧ j ≤ js.length ∧ kk = .int .i64 (k + 4 * j) ∧ wr.ownsRow lo 91 4 (.slice a js.length c) js.length (jobsC (mkpJ k js j)) ∧ Kept (fun b => lo ≤ b ∧ b < hi) w wr) (fun _ i _ => js.length - (intOf i).toNat)
  case atStart => exact ⟨0, rfl, Nat.zero_le _, by simp, by rw [mkpJ_zero]; exact HO.out.1, Kept.refl _ _⟩
  case round =>
    obtain ⟨j, rfl, hj, rfl, hown, hkp⟩ := hrel
    have HO1 := Lib.hid hown
    have HK1 := Lib.hid hkp
    clear hkp
    by_cases hlt : j < js.length
    · obtain ⟨g, rfl, hlo⟩ := ownsK_some hown (by omega)
      have hhi := HO.out.2 g rfl
      clear hown
      have hlen := mkpJ_len k js j
      have d0 := HO1.out.cellAt (j * 4) (by omega)
      have d1 := HO1.out.cellAt (j * 4 + 1) (by omega)
      have d2 := HO1.out.cellAt (j * 4 + 2) (by omega)
      have d3 := HO1.out.cellAt (j * 4 + 3) (by omega)
      have e0 := jobsC_at (mkpJ k js j) j 0 (by omega) (by omega)
      rw [Nat.add_zero] at e0
      rw [e0] at d0
      rw [jobsC_at (mkpJ k js j) j 1 (by omega) (by omega)] at d1
      rw [jobsC_at (mkpJ k js j) j 2 (by omega) (by omega)] at d2
      rw [jobsC_at (mkpJ k js j) j 3 (by omega) (by omega)] at d3
      generalize (mkpJ k js j).getD j J0 = old at d0 d1 d2 d3
      simp only [jobCells, List.getElem?_cons_zero, List.getElem?_cons_succ, I64] at d0 d1 d2 d3
      have f0 := HO1.out.frozenAt (j * 4)
      have f1 := HO1.out.frozenAt (j * 4 + 1)
      have f2 := HO1.out.frozenAt (j * 4 + 2)
      have f3 := HO1.out.frozenAt (j * 4 + 3)
      have HST := Lib.hid ((((HO1.out.stored (j * 4) (.int .i64 (k + 4 * j))).1.stored (j * 4 + 1) (.int .i64 (k + 4 * j + 1))).1.stored (j * 4 + 2) (.int .i64 (k + 4 * j + 2))).1.stored (j * 4 + 3) (.int .i64 (k + 4 * j + 3))).1
      have HSET := Lib.hid (mkpJ_set k js j hlt)
      have HJC := Lib.hid (jobsC_set (mkpJ k js j) j (k + 4 * j) (k + 4 * j + 1) (k + 4 * j + 2) (k + 4 * j + 3) (by omega))
      clear e0 hlen
      have s1 : k + 4 * (j : Int) + 1 + 1 = k + 4 * (j : Int) + 2 := by omega
      have s2 : k + 4 * (j : Int) + 2 + 1 = k + 4 * (j : Int) + 3 := by omega
      go_wp2_with fail
      go_roundw
      case rel =>
        refine ⟨j + 1, by go_num, by omega, congrArg (Value.int IntKind.i64) (by push_cast; omega), ?_, (((HK1.out.setCell (.inr ⟨hlo, hhi⟩) _).setCell (.inr ⟨hlo, hhi⟩) _).setCell (.inr ⟨hlo, hhi⟩) _).setCell (.inr ⟨hlo, hhi⟩) _⟩
        rw [HSET.out, ← HJC.out]
        exact HST.out
      case measure => simp [intOf]; omega
    · clear hown
      obtain rfl : j = js.length := by omega
      go_wp2_with fail
      go_ret
      refine ⟨congrArg (fun x => Ending.returned (Value.int IntKind.i64 x)) (by push_cast; omega), ⟨?_, HO.out.2⟩, HK1.out⟩
      have h := HO1.out
      rw [mkpJ_full] at h
      rw [mkdJ_len]
      exact h

end Go.Proofs.Ytkmbkjbammpdhaa

namespace Go.Proofs.Ytkmbkjbammpdhaa
open Go.RowKit

def cntRL (ds : List RowsD) : Nat := bulkRL ds
theorem cntRL_le (ds : List RowsD) : cntRL ds ≤ bulkRL ds := Nat.le_refl _

set_option maxHeartbeats 2000000 in
set_option maxRecDepth 4000 in
theorem markRL_o (v : Value) (lo hi : Nat) (ds : List RowsD) (k : Int) (w : World) (ho : OwnRL lo hi w v ds) (h0 : 0 ≤ k) (h1 : k + cntRL ds ≤ 1099511627776) :
    Calls Try.prog 58 #[v, .int .i64 k] w fun e w' => e = .returned (.int .i64 (k + cntRL ds)) ∧ True ∧ Kept (fun b => lo ≤ b ∧ b < hi) w w' := by
  obtain ⟨a, c, rfl⟩ := ho.rd.shape
  have hl := ho.rd.len
  unfold maxLen at hl
  obtain ⟨rows, hd, hown, hblk, hE⟩ := ho
  have HD := Lib.hid hd
  have HO := Lib.hid hown
  have HBK := Lib.hid hblk
  have HE := Lib.hid hE
  have H1 := Lib.hid h1
  clear hd hown hblk hE h1
  go_enter Try.func58, Try.ntmps58
  go_wp2_with fail
  go_loopw [1, 5] (fun kk i wr => ∃ (j : Nat) (L : List Value), i = .int .i64 j ∧ j ≤ ds.length ∧ kk = .int .i64 (k + j + (sumRL (ds.take j) : Nat)) ∧ wr.ownsRow lo 26 4 (.slice a ds.length c) ds.length L ∧ Hid (∀ m, j * 4 ≤ m → L[m]? = (rows.flatMap cellsRL)[m]?) ∧ Hid (∀ (i : Nat) (r : RowRL), j ≤ i → rows[i]? = some r → OwnR r.l r.h wr (aggRL r) r.d) ∧ Kept (fun b => lo ≤ b ∧ b < hi) w wr) (fun _ i _ => ds.length - (intOf i).toNat)
  case atStart => exact ⟨0, _, rfl, Nat.zero_le _, by simp [sumRL], HO.out, fun _ _ => rfl, fun i r _ hr => (HE.out.1 i r hr).1, Kept.refl _ _⟩
  case round =>
    obtain ⟨j, L, rfl, hj, rfl, hown, HL, HEA, hkp⟩ := hrel
    have HO1 := Lib.hid hown
    have HK1 := Lib.hid hkp
    clear hkp
    by_cases hlt : j < ds.length
    · obtain ⟨g, rfl, hlo⟩ := ownsK_some hown (by omega)
      have hhi := (HBK.out g rfl).1
      clear hown
      have hir : j < rows.length := by have h := HD.out; rw [h, List.length_map] at hlt; exact hlt
      obtain ⟨r, hr⟩ : ∃ r, rows[j]? = some r := ⟨_, List.getElem?_eq_getElem hir⟩
      have hgd : ds.getD j IRL = r.d := by have h := HD.out; rw [h]; simp [hr]
      have hsum := sumRL_take_succ ds j hlt
      have hle := bulkRL_le ds (j + 1)
      have h1 := H1.out
      unfold cntRL at h1
      rw [hgd] at hsum
      have hng := (HBK.out g rfl).2 j r hr
      have hrl := (HE.out.1 j r hr).2
      have hsep := Lib.hid (fun (i : Nat) (s : RowRL) (hi : j < i) (hs : rows[i]? = some s) => HE.out.2 j i r s hi hr hs)
      have hat := fun (d : Nat) (hd : d < 4) => flat_at cellsRL 4 cellsRL_len rows j d r hr hd
      have d1 := HO1.out.cellAt (j * 4 + 1) (by omega)
      have d2 := HO1.out.cellAt (j * 4 + 2) (by omega)
      have d3 := HO1.out.cellAt (j * 4 + 3) (by omega)
      have d0 := HO1.out.cellAt (j * 4) (by omega)
      rw [HL.out _ (by omega), hat 1 (by omega)] at d1
      rw [HL.out _ (by omega), hat 2 (by omega)] at d2
      rw [HL.out _ (by omega), hat 3 (by omega)] at d3
      have e0 := hat 0 (by omega)
      rw [Nat.add_zero] at e0
      rw [HL.out _ (by omega), e0] at d0
      obtain ⟨va, vb, vc, ev, o1, o2, o3, q1, q2, q3⟩ := HEA.out j r (Nat.le_refl _) hr
      simp only [cellsRL, List.getElem?_cons_zero, List.getElem?_cons_succ] at d0 d1 d2 d3
      simp only [aggRL, Value.agg.injEq, Array.mk.injEq, List.cons.injEq, and_true, true_and] at ev
      rw [ev.1] at d1
      rw [ev.2.1] at d2
      rw [ev.2.2] at d3
      clear ev
      obtain ⟨a1, c1, rfl⟩ := o1.rd.shape
      obtain ⟨a2, c2, rfl⟩ := o2.rd.shape
      obtain ⟨a3, c3, rfl⟩ := o3.rd.shape
      obtain ⟨⟨n0, x1, x2, x3⟩, ra1, ra2, ra3, rl, rh⟩ := r
      simp only [bulkR] at o1 o2 o3 q1 q2 q3 d0 d1 d2 d3 hsum hng hrl hsep
      have HSUM := Lib.hid hsum
      have f0 := HO1.out.frozenAt (j * 4)
      obtain ⟨W0, hW0⟩ : ∃ W0, W0 = wr.setCell ⟨g, j * 4, none⟩ (.int .i64 (k + j + (sumRL (ds.take j) : Nat))) := ⟨_, rfl⟩
      have hown0 := (HO1.out.stored (j * 4) (.int .i64 (k + j + (sumRL (ds.take j) : Nat)))).1
      rw [← hW0] at hown0
      have hk0 : Kept (fun b => b = g) wr W0 := by rw [hW0]; exact Kept.setCell (S := fun b => b = g) (p := ⟨g, j * 4, none⟩) (Kept.refl _ _) (.inr rfl) _
      have O1 := Lib.hid (o1.kept hk0 (by rintro b p1 p2 rfl; exact hng ⟨p1, p2⟩))
      have O2 := Lib.hid (o2.kept hk0 (by rintro b p1 p2 rfl; exact hng ⟨p1, p2⟩))
      have O3 := Lib.hid (o3.kept hk0 (by rintro b p1 p2 rfl; exact hng ⟨p1, p2⟩))
      have HK0 := Lib.hid hk0
      have HO0 := Lib.hid hown0
      have Q1 := Lib.hid q1
      have Q2 := Lib.hid q2
      have Q3 := Lib.hid q3
      obtain ⟨kk, hkk⟩ : ∃ kk, kk = k + (j : Int) + (sumRL (ds.take j) : Nat) := ⟨_, rfl⟩
      have hkk0 : 0 ≤ kk := by omega
      have hkb : kk + 1 + x1.length + x2.length + x3.length ≤ 1099511627776 := by omega
      have hset := fun (m : Nat) (h : (j + 1) * 4 ≤ m) => show (L.set (j * 4) (.int .i64 (k + j + (sumRL (ds.take j) : Nat))))[m]? = (rows.flatMap cellsRL)[m]? by
        rw [List.getElem?_set_ne (by omega)]; exact HL.out m (by omega)
      have HSET := Lib.hid hset
      rw [← hkk] at hW0 hown0 HO0 HSET ⊢
      have HKK := Lib.hid hkk
      have hdd := HO0.out
      have e1 : W0.cell? ⟨g, j * 4 + 1, none⟩ = some (.slice a1 x1.length c1) := by
        rw [hW0, World.cell?_setCell_other _ _ _ _ (by simp)]; exact d1
      have e2 : W0.cell? ⟨g, j * 4 + 2, none⟩ = some (.slice a2 x2.length c2) := by
        rw [hW0, World.cell?_setCell_other _ _ _ _ (by simp)]; exact d2
      have e3 : W0.cell? ⟨g, j * 4 + 3, none⟩ = some (.slice a3 x3.length c3) := by
        rw [hW0, World.cell?_setCell_other _ _ _ _ (by simp)]; exact d3
      have hgs : g < W0.heap.size := cell_lt e1
      have E1 := Lib.hid e1
      have E2 := Lib.hid e2
      have E3 := Lib.hid e3
      have HW0 := Lib.hid hW0
      clear o1 o2 o3 q1 q2 q3 hown0 hk0 hset hkk hsum hat e0 hgd hle h1 hdd e1 e2 e3 hW0
      go_wp2_with fail
      rw [← HW0.out]
      clear d0 d1 d2 d3
      refine (markF_fine _ rl rh x1 _ W0 O1.out (by omega) (by omega)).mono ?_
      rintro e w1 ⟨rfl, -, k1⟩
      have e2 : w1.cell? ⟨g, j * 4 + 2, none⟩ = some (.slice a2 x2.length c2) := (k1.cell (p := ⟨g, j * 4 + 2, none⟩) hgs (fun h => hng (O1.out.blk h))).trans E2.out
      have p2 := Lib.hid (keptF O2.out k1 (fun g h1 h2 => Q1.out g h2 h1))
      have p3 := Lib.hid (keptF O3.out k1 (fun g h1 h2 => Q2.out g h2 h1))
      have K1 := Lib.hid (show Kept (fun b => rl ≤ b ∧ b < rh) W0 w1 from k1.mono (fun i _ hs => O1.out.blk hs))
      have hz1 := k1.size
      clear k1
      go_wp2_with fail
      refine (markF_fine _ rl rh x2 _ w1 p2.out (by omega) (by omega)).mono ?_
      rintro e w2 ⟨rfl, -, k2⟩
      have e3 : w2.cell? ⟨g, j * 4 + 3, none⟩ = some (.slice a3 x3.length c3) := (k2.cell (p := ⟨g, j * 4 + 3, none⟩) (Nat.lt_of_lt_of_le hgs hz1) (fun h => hng (O2.out.blk h))).trans ((K1.out.cell (p := ⟨g, j * 4 + 3, none⟩) hgs hng).trans E3.out)
      have q3 := Lib.hid (keptF p3.out k2 (fun g h1 h2 => Q3.out g h2 h1))
      have K2 := Lib.hid (K1.out.trans (show Kept (fun b => rl ≤ b ∧ b < rh) w1 w2 from k2.mono (fun i _ hs => O2.out.blk hs)))
      have hz2 := k2.size
      clear k2 e2 K1
      go_wp2_with fail
      refine (markF_fine _ rl rh x3 _ w2 q3.out (by omega) (by omega)).mono ?_
      rintro e w3 ⟨rfl, -, k3⟩
      have K3 := Lib.hid (K2.out.trans (show Kept (fun b => rl ≤ b ∧ b < rh) w2 w3 from k3.mono (fun i _ hs => O3.out.blk hs)))
      clear k3 e3 K2
      go_wp2_with fail
      go_roundw
      case rel =>
        refine ⟨j + 1, _, by go_num, by omega, congrArg (Value.int IntKind.i64) (by rw [HSUM.out, HKK.out]; push_cast; omega), ownsK_kept HO0.out K3.out (by intro g' h; cases h; exact hng), HSET.out, ?_, ?_⟩
        · intro i r' hi hr'
          have hs := hsep.out i r' (by omega) hr'
          have ho := HEA.out i r' (by omega) hr'
          have hnr := (HBK.out g rfl).2 i r' hr'
          exact (ho.kept HK0.out (by rintro b p1 p2 rfl; exact hnr ⟨p1, p2⟩)).kept K3.out (by rintro b p1 p2 ⟨p3, p4⟩; omega)
        · exact (HK1.out.step HK0.out (by rintro b _ rfl; exact ⟨hlo, hhi⟩)).step K3.out (by rintro b _ ⟨p1, p2⟩; omega)
      case measure => simp [intOf]; omega
    · clear hown
      obtain rfl : j = ds.length := by omega
      go_wp2_with fail
      go_ret
      refine ⟨congrArg (fun x => Ending.returned (Value.int IntKind.i64 x)) ?_, trivial, HK1.out⟩
      rw [List.take_length]; unfold cntRL bulkRL; push_cast; omega

end Go.Proofs.Ytkmbkjbammpdhaa

namespace Go.Proofs.Ytkmbkjbammpdhaa
open Go.RowKit

set_option maxHeartbeats 4000000 in
set_option maxRecDepth 100000 in
theorem lawWholesShared_any (w : World) (v0 : Value) (z0 : List RowsD) (r0 : RdRL w v0 z0) (a1 : Int) (a2 : Int) :
    Calls Try.prog 11 #[v0, .int .i64 a1, .int .i64 a2] w fun e w' => e = .returned (.bool true) ∧ Below w.heap.size w w' := by
  obtain ⟨x0, c0, rfl⟩ := r0.shape
  have l0_0 : z0.length ≤ 9223372036854775807 := by have := RdRL.len r0; unfold maxLen at this; omega
  have RP0 := Lib.hid r0
  clear r0
  have B : Hid (Below w.heap.size w w) := Below.refl _ _
  go_enter Try.func11, Try.ntmps11
  go_upto_region 2 with fail
  go_wp2_with fail
  refine (szRL_any _ z0 _ _ (RP0.out.up B.out (Nat.le_refl _)) (by decide) (by decide)).mono ?_
  rintro e w1 ⟨s0, rfl, sa0, sb0, sc0, hb⟩
  replace B := Lib.hid (B.out.trans (hb.mono B.out.size))
  have zw1 : w.heap.size ≤ w1.heap.size := hb.size
  clear hb
  by_cases hn0 : s0 < 0
  · go_wp2_with fail
    go_ret
    exact ⟨rfl, B.out⟩
  have hs0 : bulkRL z0 ≤ 1048576 := by have := sc0 (by omega); omega
  clear sa0 sb0 sc0
  have ne1 : ((shOk z0 a1 a2) != (shOk z0 a1 a2)) = false := by simp
  go_upto_region 5 with fail
  go_wp2_with fail
  refine (toRL_any _ z0 _ (RP0.out.up B.out (Nat.le_refl _)) hs0).mono ?_
  rintro e w2 ⟨vc0, rfl, c0, hb⟩
  replace c0 := Lib.hid c0
  replace B := Lib.hid (B.out.trans (hb.mono B.out.size))
  have zw2 : w1.heap.size ≤ w2.heap.size := hb.size
  clear hb
  go_wp2_with fail
  refine (specShared_any _ z0 a1 a2 _ c0.out.rd).mono ?_
  rintro e w3 ⟨Wv0, rfl, Wo0, hb⟩
  replace Wo0 := Lib.hid Wo0
  replace B := Lib.hid (B.out.trans (hb.mono B.out.size))
  replace c0 := Lib.hid (c0.out.up hb (Nat.le_refl _))
  have zw3 : w2.heap.size ≤ w3.heap.size := hb.size
  clear hb
  clear c0
  go_upto_region 6 with fail
  go_wp2_with fail
  refine (toRL_any _ z0 _ (RP0.out.up B.out (Nat.le_refl _)) hs0).mono ?_
  rintro e w4 ⟨vcp0, rfl, cp0, hb⟩
  replace cp0 := Lib.hid cp0
  replace B := Lib.hid (B.out.trans (hb.mono B.out.size))
  replace Wo0 := Lib.hid (Wo0.out.up hb (Nat.le_refl _))
  have zw4 : w3.heap.size ≤ w4.heap.size := hb.size
  clear hb
  go_upto_region 7 with fail
  go_wp2_with fail
  refine (implShared_any _ z0 a1 a2 _ cp0.out.rd).mono ?_
  rintro e w5 ⟨Gv0, rfl, Go0, hb⟩
  replace Go0 := Lib.hid Go0
  replace B := Lib.hid (B.out.trans (hb.mono B.out.size))
  replace Wo0 := Lib.hid (Wo0.out.up hb (Nat.le_refl _))
  replace cp0 := Lib.hid (cp0.out.up hb (Nat.le_refl _))
  have zw5 : w4.heap.size ≤ w5.heap.size := hb.size
  clear hb
  go_upto_region 8 with fail
  go_wp2_with fail
  refine (eqF_same _ _ (shL z0 a1 a2) _ Go0.out.rd Wo0.out.rd).mono ?_
  rintro e w6 ⟨rfl, hb⟩
  replace B := Lib.hid (B.out.trans (hb.mono B.out.size))
  replace Wo0 := Lib.hid (Wo0.out.up hb (Nat.le_refl _))
  replace cp0 := Lib.hid (cp0.out.up hb (Nat.le_refl _))
  replace Go0 := Lib.hid (Go0.out.up hb (Nat.le_refl _))
  have zw6 : w5.heap.size ≤ w6.heap.size := hb.size
  clear hb
  go_upto_region 10 with fail
  go_wp2_with fail
  refine (toRL_any _ z0 _ (RP0.out.up B.out (Nat.le_refl _)) hs0).mono ?_
  rintro e w7 ⟨vc0, rfl, c0, hb⟩
  replace c0 := Lib.hid c0
  replace B := Lib.hid (B.out.trans (hb.mono B.out.size))
  replace Wo0 := Lib.hid (Wo0.out.up hb (Nat.le_refl _))
  replace cp0 := Lib.hid (cp0.out.up hb (Nat.le_refl _))
  replace Go0 := Lib.hid (Go0.out.up hb (Nat.le_refl _))
  have zw7 : w6.heap.size ≤ w7.heap.size := hb.size
  clear hb
  go_wp2_with fail
  refine (eqRL_same _ _ z0 _ cp0.out.rd c0.out.rd).mono ?_
  rintro e w8 ⟨rfl, hb⟩
  replace B := Lib.hid (B.out.trans (hb.mono B.out.size))
  replace Wo0 := Lib.hid (Wo0.out.up hb (Nat.le_refl _))
  replace cp0 := Lib.hid (cp0.out.up hb (Nat.le_refl _))
  replace Go0 := Lib.hid (Go0.out.up hb (Nat.le_refl _))
  replace c0 := Lib.hid (c0.out.up hb (Nat.le_refl _))
  have zw8 : w7.heap.size ≤ w8.heap.size := hb.size
  clear hb
  clear c0
  have hk0 : (0 : Int) ≤ 1 := by decide
  have hc0 : (0 : Int) ≤ (cntRL z0 : Nat) := by omega
  go_upto_region 13 with fail
  go_wp2_with fail
  refine (markRL_o _ _ _ z0 _ _ cp0.out (by omega) (by have := cntRL_le z0; omega)).mono ?_
  rintro e w9 ⟨rfl, -, hb⟩
  replace B := Lib.hid (B.out.trans (hb.toBelow B.out.size (by rintro k hk1 ⟨h1, h2⟩; omega)))
  replace Wo0 := Lib.hid (Wo0.out.kept hb (by rintro b h1 h2 ⟨h3, h4⟩; omega))
  replace Go0 := Lib.hid (Go0.out.kept hb (by rintro b h1 h2 ⟨h3, h4⟩; omega))
  have zw9 : w8.heap.size ≤ w9.heap.size := hb.size
  clear hb
  clear cp0
  go_upto_region 14 with fail
  go_wp2_with fail
  refine (eqF_same _ _ (shL z0 a1 a2) _ Go0.out.rd Wo0.out.rd).mono ?_
  rintro e w10 ⟨rfl, hb⟩
  replace B := Lib.hid (B.out.trans (hb.mono B.out.size))
  replace Wo0 := Lib.hid (Wo0.out.up hb (Nat.le_refl _))
  replace Go0 := Lib.hid (Go0.out.up hb (Nat.le_refl _))
  have zw10 : w9.heap.size ≤ w10.heap.size := hb.size
  clear hb
  have hcGo0 : (0 : Int) ≤ (cntF (shL z0 a1 a2) : Nat) := by omega
  have Go0h := Go0
  clear Go0h
  go_upto_region 17 with fail
  go_wp2_with fail
  refine (markF_o _ _ _ (shL z0 a1 a2) _ _ Go0.out (by omega) (by have := shL_cnt z0 a1 a2; omega)).mono ?_
  rintro e w11 ⟨rfl, MGo0, hb⟩
  replace MGo0 := Lib.hid MGo0
  replace B := Lib.hid (B.out.trans (hb.toBelow B.out.size (by rintro k hk1 ⟨h1, h2⟩; omega)))
  replace Wo0 := Lib.hid (Wo0.out.kept hb (by rintro b h1 h2 ⟨h3, h4⟩; omega))
  have zw11 : w10.heap.size ≤ w11.heap.size := hb.size
  clear hb
  clear Go0
  have nm : ((1 + (cntF (shL z0 a1 a2) : Int) : Int) != (1 + (cntF (shL z0 a1 a2) : Int) : Int)) = false := by simp
  go_upto_region 19 with fail
  go_wp2_with fail
  refine (heldF_o _ (shL z0 a1 a2) _ _ MGo0.out.rd (by omega) (by have := shL_cnt z0 a1 a2; omega)).mono ?_
  rintro e w12 ⟨rfl, hb⟩
  replace B := Lib.hid (B.out.trans (hb.mono B.out.size))
  replace Wo0 := Lib.hid (Wo0.out.up hb (Nat.le_refl _))
  replace MGo0 := Lib.hid (MGo0.out.up hb (Nat.le_refl _))
  have zw12 : w11.heap.size ≤ w12.heap.size := hb.size
  clear hb
  go_upto_region 24 with fail
  go_wp2_with fail
  refine (toRL_any _ z0 _ (RP0.out.up B.out (Nat.le_refl _)) hs0).mono ?_
  rintro e w13 ⟨vc0, rfl, c0, hb⟩
  replace c0 := Lib.hid c0
  replace B := Lib.hid (B.out.trans (hb.mono B.out.size))
  replace Wo0 := Lib.hid (Wo0.out.up hb (Nat.le_refl _))
  replace MGo0 := Lib.hid (MGo0.out.up hb (Nat.le_refl _))
  have zw13 : w12.heap.size ≤ w13.heap.size := hb.size
  clear hb
  go_wp2_with fail
  refine (implShared_any _ z0 a1 a2 _ c0.out.rd).mono ?_
  rintro e w14 ⟨Hv0, rfl, Ho0, hb⟩
  replace Ho0 := Lib.hid Ho0
  replace B := Lib.hid (B.out.trans (hb.mono B.out.size))
  replace Wo0 := Lib.hid (Wo0.out.up hb (Nat.le_refl _))
  replace MGo0 := Lib.hid (MGo0.out.up hb (Nat.le_refl _))
  replace c0 := Lib.hid (c0.out.up hb (Nat.le_refl _))
  have zw14 : w13.heap.size ≤ w14.heap.size := hb.size
  clear hb
  clear c0
  go_upto_region 25 with fail
  go_wp2_with fail
  refine (eqF_same _ _ (shL z0 a1 a2) _ Ho0.out.rd Wo0.out.rd).mono ?_
  rintro e w15 ⟨rfl, hb⟩
  replace B := Lib.hid (B.out.trans (hb.mono B.out.size))
  replace Wo0 := Lib.hid (Wo0.out.up hb (Nat.le_refl _))
  replace MGo0 := Lib.hid (MGo0.out.up hb (Nat.le_refl _))
  replace Ho0 := Lib.hid (Ho0.out.up hb (Nat.le_refl _))
  have zw15 : w14.heap.size ≤ w15.heap.size := hb.size
  clear hb
  go_upto_region 28 with fail
  go_wp2_with fail
  refine (heldF_o _ (shL z0 a1 a2) _ _ MGo0.out.rd (by omega) (by have := shL_cnt z0 a1 a2; omega)).mono ?_
  rintro e w16 ⟨rfl, hb⟩
  replace B := Lib.hid (B.out.trans (hb.mono B.out.size))
  replace Wo0 := Lib.hid (Wo0.out.up hb (Nat.le_refl _))
  replace MGo0 := Lib.hid (MGo0.out.up hb (Nat.le_refl _))
  replace Ho0 := Lib.hid (Ho0.out.up hb (Nat.le_refl _))
  have zw16 : w15.heap.size ≤ w16.heap.size := hb.size
  clear hb
  go_wp2_with fail
  go_ret
  exact ⟨rfl, B.out⟩

end Go.Proofs.Ytkmbkjbammpdhaa
