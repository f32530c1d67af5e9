/-
  FnSpans: texts joined: Span, SpanT, SpanV, SpanS, MostM, MostN.
-/
import Derived.Deep.RegionHeld3
import Derived.Test.YtkfiepiipigcmaaMFnSpansAB
import Derived.Test.YtkfiepiipigcmaaMFnSpansAD
import Derived.Test.YtkfiepiipigcmaaMFnSpansAG
namespace Go.Proofs.Ytkfiepiipigcmaa
open Go.RowKit

structure SpanD where
  start : Int
  stop : Int
  gain : Int
def P0 : SpanD := ⟨0, 0, 0⟩
def spanCells (j : SpanD) : List Value := [I64 j.start, I64 j.stop, I64 j.gain]
def spansC (ps : List SpanD) : List Value := ps.flatMap spanCells
theorem spansC_len (ps : List SpanD) : (spansC ps).length = ps.length * 3 := by
  induction ps with
  | nil => rfl
  | cons j r ih => simp only [spansC, List.flatMap_cons, List.length_append, List.length_cons, spanCells] at ih ⊢; simp at ih ⊢; omega
theorem spansC_at : ∀ (ps : List SpanD) (i c : Nat), i < ps.length → c < 3 → (spansC ps)[i * 3 + c]? = (spanCells (ps.getD i P0))[c]?
  | [], i, c, h, _ => by simp at h
  | j :: r, 0, c, _, hc => by
    simp only [spansC, List.flatMap_cons, Nat.zero_mul, Nat.zero_add, List.getD_cons_zero]
    rw [List.getElem?_append_left (by simp [spanCells]; omega)]
  | j :: r, i + 1, c, h, hc => by
    have ih := spansC_at r i c (by simpa using h) hc
    simp only [spansC, List.flatMap_cons, List.getD_cons_succ] at ih ⊢
    rw [List.getElem?_append_right (by simp [spanCells]; omega), ← ih]
    congr 1
    simp [spanCells]; omega

/-- The slice reads as these jobs. -/
def RdP (w : World) (v : Value) (ps : List SpanD) : Prop :=
  (∃ a cap, v = .slice a 0 cap ∧ cap ≤ maxLen ∧ ps = []) ∨ ∃ b off cap, v = .slice (some ⟨b, off, none⟩) ps.length cap ∧ ps.length ≤ cap ∧ cap ≤ maxLen ∧ ∀ i, i < ps.length → ∀ c u, (spanCells (ps.getD i P0))[c]? = some u → w.cell? ⟨b, off + i * 3 + c, none⟩ = some u
def OwnP (lo hi : Nat) (w : World) (v : Value) (ps : List SpanD) : Prop := w.ownsRow lo 41 3 v ps.length (spansC ps) ∧ ∀ g, v.ownBlock = some g → g < hi
def bulkP (ps : List SpanD) : Nat := ps.length
def cntP (ps : List SpanD) : Nat := ps.length * 3

theorem RdP.shape {w : World} {v : Value} {ps : List SpanD} (h : RdP w v ps) : ∃ a c, v = .slice a ps.length c := by
  rcases h with ⟨a, cap, rfl, _, rfl⟩ | ⟨b, off, cap, rfl, _⟩
  · exact ⟨a, cap, rfl⟩
  · exact ⟨_, cap, rfl⟩
theorem RdP.len {w : World} {v : Value} {ps : List SpanD} (h : RdP w v ps) : ps.length ≤ maxLen := by
  rcases h with ⟨a, cap, rfl, _, rfl⟩ | ⟨b, off, cap, rfl, h1, h2, _⟩
  · simp [maxLen]
  · omega
theorem RdP.at {w : World} {a : Option Addr} {n c : Nat} {ps : List SpanD} (h : RdP w (.slice a n c) ps) {i : Nat} (hi : i < ps.length) :
    ∃ b off, a = some ⟨b, off, none⟩ ∧ b < w.heap.size ∧ w.cell? ⟨b, off + i * 3, none⟩ = some (.int .i64 (ps.getD i P0).start) ∧ w.cell? ⟨b, off + i * 3 + 1, none⟩ = some (.int .i64 (ps.getD i P0).stop) ∧ w.cell? ⟨b, off + i * 3 + 2, none⟩ = some (.int .i64 (ps.getD i P0).gain) := by
  rcases h with ⟨_, _, _, _, rfl⟩ | ⟨b, off, cap, e, _, _, hc⟩
  · simp at hi
  · simp only [Value.slice.injEq] at e
    obtain ⟨rfl, rfl, rfl⟩ := e
    have h0 := hc i hi 0 _ rfl
    exact ⟨b, off, rfl, cell_lt h0, h0, hc i hi 1 _ rfl, hc i hi 2 _ rfl⟩
theorem RdP.up {w w' : World} {v : Value} {ps : List SpanD} {B : Nat} (h : RdP w v ps) (hb : Below B w w') (hB : w.heap.size ≤ B) : RdP w' v ps := by
  rcases h with h | ⟨b, off, cap, e, h1, h2, hc⟩
  · exact .inl h
  · exact .inr ⟨b, off, cap, e, h1, h2, fun i hi c u hu => held_of hb (hc i hi c u hu) hB⟩

theorem OwnP.rd {lo hi : Nat} {w : World} {v : Value} {ps : List SpanD} (h : OwnP lo hi w v ps) : RdP w v ps := by
  rcases h.1.2 with ⟨rfl, e⟩ | ⟨g, cap, cur, rfl, hb, hg, hn, hm, hs, ht⟩
  · left; exact ⟨none, 0, rfl, by simp [maxLen], List.length_eq_zero_iff.1 e⟩
  · right
    refine ⟨g, 0, cap, rfl, hn, hm, fun i hi c u hu => ?_⟩
    have hc : c < 3 := by
      have := (List.getElem?_eq_some_iff.1 hu).1
      simpa [spanCells] using this
    have h1 := h.1.cellAt (i * 3 + c) (by omega)
    rw [spansC_at ps i c hi hc, hu] at h1
    simpa [Nat.add_assoc] using h1
theorem OwnP.up {lo hi : Nat} {w w' : World} {v : Value} {ps : List SpanD} {B : Nat} (h : OwnP lo hi w v ps) (hb : Below B w w') (hB : w.heap.size ≤ B) : OwnP lo hi w' v ps := ⟨ownsK_below h.1 hb hB, h.2⟩
theorem OwnP.wide {lo hi lo' hi' : Nat} {w : World} {v : Value} {ps : List SpanD} (h : OwnP lo hi w v ps) (h1 : lo' ≤ lo) (h2 : hi ≤ hi') : OwnP lo' hi' w v ps := ⟨ownsK_base h.1 h1, fun g hg => Nat.lt_of_lt_of_le (h.2 g hg) h2⟩
theorem OwnP.kept {lo hi : Nat} {w w' : World} {v : Value} {ps : List SpanD} {S : Nat → Prop} (h : OwnP lo hi w v ps) (hk : Kept S w w') (hs : ∀ b, lo ≤ b → b < hi → ¬ S b) : OwnP lo hi w' v ps :=
  ⟨ownsK_kept h.1 hk fun g hg => hs g (h.1.lt g hg).1 (h.2 g hg), h.2⟩
theorem OwnP.mk {lo : Nat} {w : World} {v : Value} {ps : List SpanD} (h : w.ownsRow lo 41 3 v ps.length (spansC ps)) : OwnP lo w.heap.size w v ps := ⟨h, fun g hg => (h.lt g hg).2⟩

end Go.Proofs.Ytkfiepiipigcmaa

namespace Go.Proofs.Ytkfiepiipigcmaa
open Go.RowKit

def spanV (j : SpanD) : Value := .agg #[.int .i64 j.start, .int .i64 j.stop, .int .i64 j.gain]

set_option maxHeartbeats 1000000 in
theorem eqSpan_same (j : SpanD) (w : World) :
    Calls Try.prog 56 #[spanV j, spanV j] w fun e w' => e = .returned (.bool true) ∧ Below w.heap.size w w' := by
  obtain ⟨a, b, c⟩ := j
  have h1 : (a != a) = false := by simp
  have h2 : (b != b) = false := by simp
  have h3 : (c != c) = false := by simp
  unfold spanV
  simp only
  go_enter Try.func56, Try.ntmps56
  go_wp2_with fail
  go_ret
  exact ⟨rfl, by (repeat' first | exact Below.refl _ _ | assumption | refine Below.alloc ?_ ?_ _ | refine Below.setCell ?_ ?_ _ | refine Below.drew ?_ | (simp; done) | (simp; omega))⟩

set_option maxHeartbeats 1000000 in
set_option maxRecDepth 4000 in
theorem eqP_same (v v' : Value) (ps : List SpanD) (w : World) (h : RdP w v ps) (h' : RdP w v' ps) :
    Calls Try.prog 14 #[v, v'] w fun e w' => e = .returned (.bool true) ∧ Below w.heap.size w w' := by
  obtain ⟨a, c, rfl⟩ := h.shape
  obtain ⟨a', c', rfl⟩ := h'.shape
  have hl := h.len
  unfold maxLen at hl
  have hne : ((ps.length : Int) != (ps.length : Int)) = false := by simp
  have HS := Lib.hid h
  have HS' := Lib.hid h'
  clear h h'
  go_enter Try.func14, Try.ntmps14
  go_wp2_with fail
  go_loopw [5] (fun i wr => ∃ k : Nat, i = .int .i64 k ∧ k ≤ ps.length ∧ Below w.heap.size w wr) (fun i _ => ps.length - (intOf i).toNat)
  case atStart => exact ⟨0, rfl, Nat.zero_le _, Below.refl _ _⟩
  case round =>
    obtain ⟨k, rfl, hk, hbl⟩ := hrel
    have HB := Lib.hid hbl
    clear hbl
    by_cases hlt : k < ps.length
    · obtain ⟨b, off, rfl, hb0, x0, x1, x2⟩ := (HS.out.up HB.out (Nat.le_refl _)).at hlt
      obtain ⟨b', off', rfl, hb0', y0, y1, y2⟩ := (HS'.out.up HB.out (Nat.le_refl _)).at hlt
      obtain ⟨j, hj⟩ : ∃ j, j = ps.getD k P0 := ⟨_, rfl⟩
      rw [← hj] at x0 x1 x2 y0 y1 y2
      have HE := Lib.hid (eqSpan_same j)
      obtain ⟨p, q, r⟩ := j
      simp only at x0 x1 x2 y0 y1 y2
      clear hj
      have kk : (k : Int) < (ps.length : Int) := by omega
      have HKEEP := Lib.hid (show ∀ X, Below wr.heap.size wr X → (fun X => X.cell? ⟨b, off + k * 3, none⟩ = some (.int .i64 p) ∧ X.cell? ⟨b, off + k * 3 + 1, none⟩ = some (.int .i64 q) ∧ X.cell? ⟨b, off + k * 3 + 2, none⟩ = some (.int .i64 r) ∧ X.cell? ⟨b', off' + k * 3, none⟩ = some (.int .i64 p) ∧ X.cell? ⟨b', off' + k * 3 + 1, none⟩ = some (.int .i64 q) ∧ X.cell? ⟨b', off' + k * 3 + 2, none⟩ = some (.int .i64 r)) X from fun X hb => ⟨held_of hb x0 (Nat.le_refl _), held_of hb x1 (Nat.le_refl _), held_of hb x2 (Nat.le_refl _), held_of hb y0 (Nat.le_refl _), held_of hb y1 (Nat.le_refl _), held_of hb y2 (Nat.le_refl _)⟩)
      go_wp2_with fail
      go_region_held3 (fun X => X.cell? ⟨b, off + k * 3, none⟩ = some (.int .i64 p) ∧ X.cell? ⟨b, off + k * 3 + 1, none⟩ = some (.int .i64 q) ∧ X.cell? ⟨b, off + k * 3 + 2, none⟩ = some (.int .i64 r) ∧ X.cell? ⟨b', off' + k * 3, none⟩ = some (.int .i64 p) ∧ X.cell? ⟨b', off' + k * 3 + 1, none⟩ = some (.int .i64 q) ∧ X.cell? ⟨b', off' + k * 3 + 2, none⟩ = some (.int .i64 r))
        (first | exact HKEEP.out _ hbn | (refine HKEEP.out _ ?_; (repeat' first | exact Below.refl _ _ | assumption | refine Below.alloc ?_ ?_ _ | refine Below.setCell ?_ ?_ _ | refine Below.drew ?_ | (simp; done) | (simp; omega)); done) | go_keep)
        (first
          | (go_at_call 56; refine (HE.out _).mono ?_; rintro e w1 ⟨rfl, hb1⟩; have hbn : Below wr.heap.size wr w1 := Below.trans (by (repeat' first | exact Below.refl _ _ | assumption | refine Below.alloc ?_ ?_ _ | refine Below.setCell ?_ ?_ _ | refine Below.drew ?_ | (simp; done) | (simp; omega))) (hb1.mono (by simp)))
          | fail)
      go_wp2_with fail
      go_roundw
      case rel => exact ⟨k + 1, by go_num, by omega, HB.out.trans (hbn.mono HB.out.size)⟩
      case measure => simp [intOf]; omega
    · obtain rfl : k = ps.length := by omega
      go_wp2_with fail
      go_ret
      exact ⟨rfl, HB.out⟩

theorem spansC_set : ∀ (ps : List SpanD) (i : Nat) (a b c : Int), i < ps.length → (((spansC ps).set (i * 3) (I64 a)).set (i * 3 + 1) (I64 b)).set (i * 3 + 2) (I64 c) = spansC (ps.set i ⟨a, b, c⟩)
  | [], i, _, _, _, h => by simp at h
  | j :: r, 0, a, b, c, _ => by simp [spansC, spanCells]
  | j :: r, i + 1, a, b, c, h => by
    have ih := spansC_set r i a b c (by simpa using h)
    have e : ∀ (L : List Value) (n m : Nat) (v : Value), m = n + 3 → (spanCells j ++ L).set m v = spanCells j ++ L.set n v := fun L n m v hm => by subst hm; rfl
    show (((spanCells j ++ spansC r).set ((i + 1) * 3) (I64 a)).set ((i + 1) * 3 + 1) (I64 b)).set ((i + 1) * 3 + 2) (I64 c) = spanCells j ++ spansC (r.set i ⟨a, b, c⟩)
    rw [e _ (i * 3) _ _ (by omega), e _ (i * 3 + 1) _ _ (by omega), e _ (i * 3 + 2) _ _ (by omega), ih]

set_option maxHeartbeats 400000 in
theorem szP_any (v : Value) (ps : List SpanD) (left : Int) (w : World) (h : RdP w v ps) (h1 : left ≤ 1048576) (h0 : 0 ≤ left) :
    Calls Try.prog 9 #[v, .int .i64 left] w fun e w' => ∃ r : Int, e = .returned (.int .i64 r) ∧ -1 ≤ r ∧ r ≤ left ∧ (0 ≤ r → (bulkP ps : Int) ≤ left - r) ∧ Below w.heap.size w w' := by
  obtain ⟨a, c, rfl⟩ := h.shape
  have hl := h.len
  unfold maxLen at hl
  unfold bulkP
  clear h
  by_cases hn : left - ps.length < 0
  · go_enter Try.func9, Try.ntmps9
    go_wp2_with fail
    go_ret
    exact ⟨-1, rfl, by omega, by omega, by omega, Below.refl _ _⟩
  · go_enter Try.func9, Try.ntmps9
    go_wp2_with fail
    go_ret
    exact ⟨left - ps.length, rfl, by omega, by omega, by omega, Below.refl _ _⟩

set_option maxHeartbeats 400000 in
theorem toSpan_any (j : SpanD) (w : World) :
    Calls Try.prog 53 #[spanV j] w fun e w' => e = .returned (spanV j) ∧ Below w.heap.size w w' := by
  obtain ⟨a, b, c⟩ := j
  unfold spanV
  simp only
  go_enter Try.func53, Try.ntmps53
  go_wp2_with fail
  refine bodyPost_ret (v := .agg #[.int .i64 a, .int .i64 b, .int .i64 c]) (by simp [results, Try.results53, go_sem]) rfl ⟨rfl, ?_⟩
  (repeat' first | exact Below.refl _ _ | assumption | refine Below.alloc ?_ ?_ _ | refine Below.setCell ?_ ?_ _ | refine Below.drew ?_ | (simp; done) | (simp; omega))

theorem Try.infoSpan : (Try.prog.info? 41).map (fun i => (i.zero, i.size, i.bytes)) = some (some (.agg #[.int .i64 0, .int .i64 0, .int .i64 0]), 3, 24) := by kernel_rfl

theorem spansC_zeros (n : Nat) : spansC (List.replicate n P0) = (madeCells (Value.agg #[.int .i64 0, .int .i64 0, .int .i64 0]).cells (n * 3)).toList := by
  exact (flat_made spanCells P0 n (by simp [spanCells])).symm

set_option maxHeartbeats 1000000 in
theorem toP_any (v : Value) (ps : List SpanD) (w : World) (h : RdP w v ps) (hb : bulkP ps ≤ 1048576) :
    Calls Try.prog 11 #[v] w fun e w' => ∃ v', e = .returned v' ∧ OwnP w.heap.size w'.heap.size w' v' ps ∧ Below w.heap.size w w' := by
  obtain ⟨i0, hi, hz0, hz1, hz2⟩ := info_parts Try.infoSpan
  obtain ⟨a, c, rfl⟩ := h.shape
  unfold bulkP at hb
  have HS := Lib.hid h
  clear h
  go_enter Try.func11, Try.ntmps11
  go_wp2_with (at_make; refine wpList_make_full _ rfl _ _ 27 rfl w.heap.size 41 i0 (.agg #[.int .i64 0, .int .i64 0, .int .i64 0]) 3 Try.underlying27 hi hz0 hz1 .i64 .i64 ps.length ps.length ps.length rfl rfl rfl rfl (by rw [hz2]; omega) (by unfold maxLen; omega) (by simp) ?_; intro w1 hown hgrow)
  have hb1 : Below w.heap.size w w1 := (Below.refl _ _).grown hgrow (Nat.le_refl _) (by intro k hk; cases hk)
  rw [← spansC_zeros] at hown
  have HO := Lib.hid hown
  have HB := Lib.hid hb1
  clear hown hb1 hgrow
  go_loopw [4] (fun i wr => ∃ k : Nat, i = .int .i64 k ∧ k ≤ ps.length ∧ wr.ownsRow w.heap.size 41 3 (.slice (some ⟨w.heap.size, 0, none⟩) ps.length ps.length) ps.length (spansC (ps.take k ++ List.replicate (ps.length - k) P0)) ∧ Below w.heap.size w wr) (fun i _ => ps.length - (intOf i).toNat)
  case atStart => exact ⟨0, rfl, Nat.zero_le _, by simpa using HO.out, HB.out⟩
  case round =>
    obtain ⟨k, rfl, hk, hown, hbel⟩ := hrel
    have HO1 := Lib.hid hown
    have HB1 := Lib.hid hbel
    clear hown hbel
    by_cases hlt : k < ps.length
    · obtain ⟨b, off, rfl, hb0, x0, x1, x2⟩ := (HS.out.up HB1.out (Nat.le_refl _)).at hlt
      obtain ⟨j, hj⟩ : ∃ j, j = ps.getD k P0 := ⟨_, rfl⟩
      rw [← hj] at x0 x1 x2
      have HJ := Lib.hid hj
      clear hj
      go_wp2_with fail
      refine (toSpan_any j wr).mono ?_
      rintro e w2 ⟨rfl, hb2⟩
      have HO2 := Lib.hid (ownsK_below HO1.out hb2 (Nat.le_refl _))
      have HB2 := Lib.hid (HB1.out.trans (hb2.mono HB1.out.size))
      have hlen : (ps.take k ++ List.replicate (ps.length - k) P0).length = ps.length := by simp; omega
      have d0 := HO2.out.cellAt (k * 3) (by omega)
      have d1 := HO2.out.cellAt (k * 3 + 1) (by omega)
      have d2 := HO2.out.cellAt (k * 3 + 2) (by omega)
      have hz : (ps.take k ++ List.replicate (ps.length - k) P0).getD k P0 = P0 := by
        rw [List.getD_eq_getElem?_getD, List.getElem?_append_right (by simp; omega)]
        rw [List.getElem?_replicate, if_pos (by simp; omega)]
        rfl
      have e0 := spansC_at (ps.take k ++ List.replicate (ps.length - k) P0) k 0 (by omega) (by omega)
      rw [Nat.add_zero] at e0
      rw [e0, hz] at d0
      rw [spansC_at _ k 1 (by omega) (by omega), hz] at d1
      rw [spansC_at _ k 2 (by omega) (by omega), hz] at d2
      simp only [P0, spanCells, List.getElem?_cons_zero, List.getElem?_cons_succ, I64] at d0 d1 d2
      have f0 := HO2.out.frozenAt (k * 3)
      have f1 := HO2.out.frozenAt (k * 3 + 1)
      have f2 := HO2.out.frozenAt (k * 3 + 2)
      have HST := Lib.hid (((HO2.out.stored (k * 3) (.int .i64 j.start)).1.stored (k * 3 + 1) (.int .i64 j.stop)).1.stored (k * 3 + 2) (.int .i64 j.gain)).1
      have HJC := Lib.hid (spansC_set (ps.take k ++ List.replicate (ps.length - k) P0) k j.start j.stop j.gain (by omega))
      have HLT := Lib.hid (set_mid (ps.take k) (List.replicate (ps.length - (k + 1)) P0) P0 j k (by simp; omega))
      clear e0 hlen hz hb2
      unfold spanV
      go_wp2_with fail
      go_roundw
      case rel =>
        refine ⟨k + 1, by go_num, by omega, ?_, ((HB2.out.setCell (Nat.le_refl _) _).setCell (Nat.le_refl _) _).setCell (Nat.le_refl _) _⟩
        have h1 := HST.out
        have h2 := HJC.out
        unfold I64 at h2
        rw [h2, show ps.length - k = (ps.length - (k + 1)) + 1 by omega, List.replicate_succ, HLT.out] at h1
        have e : ps.take (k + 1) = ps.take k ++ [j] := by rw [List.take_succ_eq_append_getElem hlt, HJ.out]; simp [hlt]
        rw [e, List.append_assoc]
        exact h1
      case measure => simp [intOf]; omega
    · obtain rfl : k = ps.length := by omega
      go_wp2_with fail
      go_ret
      refine ⟨_, rfl, ?_, HB1.out⟩
      have := HO1.out
      simp at this
      exact OwnP.mk this

end Go.Proofs.Ytkfiepiipigcmaa

namespace Go.Proofs.Ytkfiepiipigcmaa
open Go.RowKit

def spanB (p : SpanD) : Bool := inB 0 100000 p.start && (inB 0 100000 p.stop && (decide (p.start < p.stop) && inB 0 1000 p.gain))
def areSpansB (ps : List SpanD) : Bool := inB 1 64 ps.length && allB ps.length (fun i => spanB (ps.getD i P0))

set_option maxHeartbeats 2000000 in
set_option maxRecDepth 4000 in
theorem AreSpans_any (v : Value) (ps : List SpanD) (w : World) (h : RdP w v ps) :
    Calls Try.prog 24 #[v] w fun e w' => e = .returned (.bool (areSpansB ps)) ∧ Below w.heap.size w w' := by
  obtain ⟨a, c, rfl⟩ := h.shape
  have hm := h.len
  simp only [maxLen] at hm
  have HP := Lib.hid h
  clear h
  obtain ⟨q1, hq1⟩ : ∃ q, inB 1 64 (ps.length : Int) = q := ⟨_, rfl⟩
  have HQ1 := Lib.hid hq1
  clear hq1
  go_enter Try.func24, Try.ntmps24
  cases q1
  · have HN := Lib.hid (show areSpansB ps = false by unfold areSpansB; rw [HQ1.out]; rfl)
    go_wp2_with (first | (go_at_call 64; refine (size_any _ _ (by unfold maxLen; omega)).mono ?_; rintro e w' ⟨rfl, rfl⟩) | (go_at_call 65; refine (within_any _ _ _ _).mono ?_; rintro e w' ⟨rfl, rfl⟩; rw [HQ1.out]))
    go_ret
    exact ⟨by rw [HN.out]; rfl, Below.refl _ _⟩
  go_wp2_with (first | (go_at_call 64; refine (size_any _ _ (by unfold maxLen; omega)).mono ?_; rintro e w' ⟨rfl, rfl⟩) | (go_at_call 65; refine (within_any _ _ _ _).mono ?_; rintro e w' ⟨rfl, rfl⟩; rw [HQ1.out]))
  go_loopw [12] (fun i wr => ∃ k : Nat, i = .int .i64 k ∧ k ≤ ps.length ∧ Hid (∀ j, j < k → spanB (ps.getD j P0) = true) ∧ Hid (Below w.heap.size w wr)) (fun i _ => ps.length - (intOf i).toNat)
  case atStart => exact ⟨0, rfl, Nat.zero_le _, fun j hj => by omega, Below.refl _ _⟩
  case round =>
    obtain ⟨k, rfl, hk, hall, HB⟩ := hrel
    by_cases hlt : k < ps.length
    · obtain ⟨b, off, rfl, hb, x0, x1, x2⟩ := (HP.out.up HB.out (Nat.le_refl _)).at hlt
      obtain ⟨x, hx⟩ : ∃ x, x = ps.getD k P0 := ⟨_, rfl⟩
      rw [← hx] at x0 x1 x2
      have HX := Lib.hid hx
      clear hx
      obtain ⟨t1, h1⟩ : ∃ t, inB 0 100000 x.start = t := ⟨_, rfl⟩
      obtain ⟨t2, h2⟩ : ∃ t, inB 0 100000 x.stop = t := ⟨_, rfl⟩
      obtain ⟨t3, h3⟩ : ∃ t, decide (x.start < x.stop) = t := ⟨_, rfl⟩
      obtain ⟨t4, h4⟩ : ∃ t, inB 0 1000 x.gain = t := ⟨_, rfl⟩
      have HJ := Lib.hid (show spanB x = (t1 && (t2 && (t3 && t4))) by unfold spanB; rw [h1, h2, h3, h4])
      have T1 := Lib.hid h1
      have T2 := Lib.hid h2
      have T3 := Lib.hid h3
      have T4 := Lib.hid h4
      have hz := HB.out.size
      clear h1 h2 h3 h4
      have HNO := Lib.hid (show spanB x = false → areSpansB ps = false from fun h => by unfold areSpansB; rw [allB_false hlt (by rw [← HX.out]; exact h), Bool.and_false])
      cases t1
      · have HN := Lib.hid (HNO.out (by rw [HJ.out]; simp))
        go_wp2_with (go_at_call 65; refine (within_any _ _ _ _).mono ?_; rintro e w' ⟨rfl, rfl⟩; first | rw [T1.out] | rw [T2.out] | rw [T4.out])
        go_ret
        refine ⟨by rw [HN.out]; rfl, HB.out.trans (Below.mono ?_ hz)⟩
        (repeat' first | exact Below.refl _ _ | assumption | refine Below.alloc ?_ ?_ _ | refine Below.setCell ?_ ?_ _ | refine Below.drew ?_ | (simp; done) | (simp; omega))
      cases t2
      · have HN := Lib.hid (HNO.out (by rw [HJ.out]; simp))
        go_wp2_with (go_at_call 65; refine (within_any _ _ _ _).mono ?_; rintro e w' ⟨rfl, rfl⟩; first | rw [T1.out] | rw [T2.out] | rw [T4.out])
        go_ret
        refine ⟨by rw [HN.out]; rfl, HB.out.trans (Below.mono ?_ hz)⟩
        (repeat' first | exact Below.refl _ _ | assumption | refine Below.alloc ?_ ?_ _ | refine Below.setCell ?_ ?_ _ | refine Below.drew ?_ | (simp; done) | (simp; omega))
      cases t3
      · have e3 : x.stop ≤ x.start := by have := T3.out; simpa using this
        have HN := Lib.hid (HNO.out (by rw [HJ.out]; simp))
        go_wp2_with (go_at_call 65; refine (within_any _ _ _ _).mono ?_; rintro e w' ⟨rfl, rfl⟩; first | rw [T1.out] | rw [T2.out] | rw [T4.out])
        go_ret
        refine ⟨by rw [HN.out]; rfl, HB.out.trans (Below.mono ?_ hz)⟩
        (repeat' first | exact Below.refl _ _ | assumption | refine Below.alloc ?_ ?_ _ | refine Below.setCell ?_ ?_ _ | refine Below.drew ?_ | (simp; done) | (simp; omega))
      have e3 : ¬ x.stop ≤ x.start := by have := T3.out; simp at this; omega
      cases t4
      · have HN := Lib.hid (HNO.out (by rw [HJ.out]; simp))
        go_wp2_with (go_at_call 65; refine (within_any _ _ _ _).mono ?_; rintro e w' ⟨rfl, rfl⟩; first | rw [T1.out] | rw [T2.out] | rw [T4.out])
        go_ret
        refine ⟨by rw [HN.out]; rfl, HB.out.trans (Below.mono ?_ hz)⟩
        (repeat' first | exact Below.refl _ _ | assumption | refine Below.alloc ?_ ?_ _ | refine Below.setCell ?_ ?_ _ | refine Below.drew ?_ | (simp; done) | (simp; omega))
      go_wp2_with (go_at_call 65; refine (within_any _ _ _ _).mono ?_; rintro e w' ⟨rfl, rfl⟩; first | rw [T1.out] | rw [T2.out] | rw [T4.out])
      go_roundw
      case rel =>
        refine ⟨k + 1, by go_num, by omega, fun j hj => ?_, HB.out.trans (Below.mono ?_ hz)⟩
        · by_cases hjk : j < k
          · exact hall.out j hjk
          · obtain rfl : j = k := by omega
            rw [← HX.out, HJ.out]; rfl
        · (repeat' first | exact Below.refl _ _ | assumption | refine Below.alloc ?_ ?_ _ | refine Below.setCell ?_ ?_ _ | refine Below.drew ?_ | (simp; done) | (simp; omega))
      case measure => simp [intOf]; omega
    · obtain rfl : k = ps.length := by omega
      have HN := Lib.hid (show areSpansB ps = true by unfold areSpansB; rw [HQ1.out, allB_true hall.out]; rfl)
      go_wp2_with fail
      go_ret
      exact ⟨by rw [HN.out]; rfl, HB.out⟩

end Go.Proofs.Ytkfiepiipigcmaa

namespace Go.Proofs.Ytkfiepiipigcmaa
open Go.RowKit Go.Sort

/-- The key of an index: where the span ends. -/
def toK (ps : List SpanD) (x : Nat) : Int := (ps.getD (x % ps.length) P0).stop
def endsL (ps : List SpanD) (k : Nat) : List Int := (ps.take k).map (·.stop)
theorem endsL_len (ps : List SpanD) (k : Nat) (h : k ≤ ps.length) : (endsL ps k).length = k := by unfold endsL; rw [List.length_map, List.length_take]; omega
theorem endsL_succ (ps : List SpanD) (k : Nat) (h : k < ps.length) : endsL ps (k + 1) = endsL ps k ++ [(ps.getD k P0).stop] := by
  unfold endsL
  rw [List.take_add_one, List.map_append, List.getElem?_eq_getElem h, List.getD_eq_getElem?_getD, List.getElem?_eq_getElem h]
  rfl
theorem endsL_at (ps : List SpanD) (x : Nat) (h : x < ps.length) : (endsL ps ps.length)[x]? = some (toK ps x) := by
  unfold endsL toK
  rw [List.take_length, List.getElem?_map, Nat.mod_eq_of_lt h, List.getD_eq_getElem?_getD, List.getElem?_eq_getElem h]
  rfl

set_option maxHeartbeats 1000000 in
/-- The reference's spans by their ends. -/
theorem l06ByTo_any (ps : List SpanD) (v : Value) (w : World) (h : RdP w v ps) (hn : ps.length ≤ 1000) :
    Calls Try.prog 51 #[v] w fun e w' => ∃ u, e = .returned u ∧ OwnI w.heap.size w'.heap.size w' u (idxs (ordL (toK ps) ps.length)) ∧ Below w.heap.size w w' := by
  obtain ⟨a, c, rfl⟩ := h.shape
  have HR := Lib.hid h
  clear h
  go_enter Try.func51, Try.ntmps51
  go_wp2_with fail
  go_loopw [3, 4] (fun out kk wr => ∃ (i : Nat) (b : Option Addr) (cap : Nat), kk = .int .i64 i ∧ i ≤ ps.length ∧ out = .slice b i cap ∧ Hid (wr.ownsRow w.heap.size 2 1 (.slice b i cap) i ((endsL ps i).map I64)) ∧ Hid (Below w.heap.size w wr)) (fun _ kk _ => ps.length + 1 - (intOf kk).toNat)
  case atStart =>
    exact ⟨0, _, _, rfl, Nat.zero_le _, rfl, Lib.hid (owns_emptyB _ _ rfl), Lib.hid ((Below.refl _ _).alloc (Nat.le_refl _) _)⟩
  case round =>
    obtain ⟨i, b, cap, rfl, hi, rfl, HO, HB⟩ := hrel
    obtain ⟨wo, rfl⟩ : ∃ wo, wo = wr := ⟨wr, rfl⟩
    by_cases hlt : i < ps.length
    · have hlt' : (i : Int) < ps.length := by omega
      obtain ⟨jb, jo, rfl, hjb, d0, d1, _⟩ := (HR.out.up HB.out (Nat.le_refl _)).at hlt
      have HE := Lib.hid (endsL_succ ps i hlt)
      obtain ⟨x, hx⟩ : ∃ x, x = (ps.getD i P0).stop := ⟨_, rfl⟩
      rw [← hx] at d1 HE
      have hsz := HB.out.size
      clear hx d0
      go_wp2_with (at_builtin; refine app_ints rfl _ _ rfl w.heap.size (.slice b i cap) i (endsL ps i) rfl (HO.out.alloc _) _ [x] rfl (slc_one _ _) (i + 1) (endsL ps (i + 1)) (by simp) HE.out (by omega) (by simp; omega) ?_; intro b2 cap2 w3 hown2 hbl2 _ _)
      go_roundw
      case rel => exact ⟨i + 1, b2, cap2, by go_num, by omega, rfl, Lib.hid hown2, Lib.hid (HB.out.trans (((Below.refl _ _).alloc hsz _).trans hbl2))⟩
      case measure => simp [intOf]; omega
    · obtain rfl : i = ps.length := by omega
      have hl := endsL_len ps ps.length (Nat.le_refl _)
      have hC := l06Order_any (.slice b ps.length cap) (endsL ps ps.length) (toK ps) wo (slc_of_owns HO.out) (by omega) (fun x hx => endsL_at ps x (by omega))
      rw [hl] at hC
      have HC := Lib.hid hC
      clear hC hl
      go_wp2_with (go_at_call 96; refine HC.out.mono ?_; rintro e w1 ⟨u, rfl, ho, hb1⟩)
      go_ret
      exact ⟨_, rfl, ho.wide HB.out.size (Nat.le_refl _), HB.out.trans (hb1.mono HB.out.size)⟩

set_option maxHeartbeats 2000000 in
set_option maxRecDepth 4000 in
theorem l06Spans_any (v : Value) (ps : List SpanD) (w : World) (h : RdP w v ps) :
    Calls Try.prog 50 #[v] w fun e w' => e = .returned (.bool (areSpansB ps)) ∧ Below w.heap.size w w' := by
  obtain ⟨a, c, rfl⟩ := h.shape
  have hm := h.len
  simp only [maxLen] at hm
  have HP := Lib.hid h
  clear h
  go_enter Try.func50, Try.ntmps50
  go_wp2_with fail
  go_loopw [3] (fun i wr => ∃ k : Nat, i = .int .i64 k ∧ k ≤ ps.length ∧ Hid (∀ j, j < k → spanB (ps.getD j P0) = true) ∧ Hid (Below w.heap.size w wr)) (fun i _ => ps.length - (intOf i).toNat)
  case atStart => exact ⟨0, rfl, Nat.zero_le _, fun j hj => by omega, Below.refl _ _⟩
  case round =>
    obtain ⟨k, rfl, hk, hall, HB⟩ := hrel
    by_cases hlt : k < ps.length
    · obtain ⟨b, off, rfl, hb, x0, x1, x2⟩ := (HP.out.up HB.out (Nat.le_refl _)).at hlt
      obtain ⟨x, hx⟩ : ∃ x, x = ps.getD k P0 := ⟨_, rfl⟩
      rw [← hx] at x0 x1 x2
      have HX := Lib.hid hx
      clear hx
      have hltI : (k : Int) < (ps.length : Int) := by omega
      obtain ⟨t1, h1⟩ : ∃ t, inB 0 100000 x.start = t := ⟨_, rfl⟩
      obtain ⟨t2, h2⟩ : ∃ t, inB (x.start + 1) 100000 x.stop = t := ⟨_, rfl⟩
      obtain ⟨t4, h4⟩ : ∃ t, inB 0 1000 x.gain = t := ⟨_, rfl⟩
      have HJ := Lib.hid (show spanB x = (t1 && (t2 && t4)) by
        unfold spanB
        rw [← h1, ← h2, ← h4]
        unfold inB
        by_cases c1 : 0 ≤ x.start ∧ x.start ≤ 100000
        · by_cases c2 : x.start < x.stop
          · have c3 : 0 ≤ x.stop := by omega
            have c4 : x.start + 1 ≤ x.stop := by omega
            simp [c1, c2, c3, c4]
          · have c4 : ¬ x.start + 1 ≤ x.stop := by omega
            simp [c1, c2, c4]
        · by_cases d1 : 0 ≤ x.start
          · have d2 : ¬ x.start ≤ 100000 := fun h => c1 ⟨d1, h⟩
            simp [d2]
          · simp [d1])
      have T1 := Lib.hid h1
      have T2 := Lib.hid h2
      have T4 := Lib.hid h4
      have hz := HB.out.size
      have HNO := Lib.hid (show spanB x = false → areSpansB ps = false from fun h => by unfold areSpansB; rw [allB_false hlt (by rw [← HX.out]; exact h), Bool.and_false])
      cases t1
      · have HN := Lib.hid (HNO.out (by rw [HJ.out]; simp))
        clear h1 h2 h4
        go_wp2_with (go_at_call 95; refine (in_any _ _ _ _).mono ?_; rintro e w' ⟨rfl, rfl⟩; first | rw [T1.out] | rw [T2.out] | rw [T4.out])
        go_ret
        refine ⟨by rw [HN.out]; rfl, HB.out.trans (Below.mono ?_ hz)⟩
        (repeat' first | exact Below.refl _ _ | assumption | refine Below.alloc ?_ ?_ _ | refine Below.setCell ?_ ?_ _ | refine Below.drew ?_ | (simp; done) | (simp; omega))
      have hb1 : 0 ≤ x.start ∧ x.start ≤ 100000 := by rw [inB_iff] at h1; exact h1
      have hw1 : IntKind.i64.wrap (x.start + 1) = x.start + 1 := IntWalk.i64_in _ (by omega)
      clear h1 h2 h4
      cases t2
      · have HN := Lib.hid (HNO.out (by rw [HJ.out]; simp))
        go_wp2_with (go_at_call 95; refine (in_any _ _ _ _).mono ?_; rintro e w' ⟨rfl, rfl⟩; first | rw [T1.out] | rw [T2.out] | rw [T4.out])
        go_ret
        refine ⟨by rw [HN.out]; rfl, HB.out.trans (Below.mono ?_ hz)⟩
        (repeat' first | exact Below.refl _ _ | assumption | refine Below.alloc ?_ ?_ _ | refine Below.setCell ?_ ?_ _ | refine Below.drew ?_ | (simp; done) | (simp; omega))
      cases t4
      · have HN := Lib.hid (HNO.out (by rw [HJ.out]; simp))
        go_wp2_with (go_at_call 95; refine (in_any _ _ _ _).mono ?_; rintro e w' ⟨rfl, rfl⟩; first | rw [T1.out] | rw [T2.out] | rw [T4.out])
        go_ret
        refine ⟨by rw [HN.out]; rfl, HB.out.trans (Below.mono ?_ hz)⟩
        (repeat' first | exact Below.refl _ _ | assumption | refine Below.alloc ?_ ?_ _ | refine Below.setCell ?_ ?_ _ | refine Below.drew ?_ | (simp; done) | (simp; omega))
      go_wp2_with (go_at_call 95; refine (in_any _ _ _ _).mono ?_; rintro e w' ⟨rfl, rfl⟩; first | rw [T1.out] | rw [T2.out] | rw [T4.out])
      go_roundw
      case rel =>
        refine ⟨k + 1, by go_num, by omega, fun j hj => ?_, HB.out.trans (Below.mono ?_ hz)⟩
        · by_cases hjk : j < k
          · exact hall.out j hjk
          · obtain rfl : j = k := by omega
            rw [← HX.out, HJ.out]; rfl
        · (repeat' first | exact Below.refl _ _ | assumption | refine Below.alloc ?_ ?_ _ | refine Below.setCell ?_ ?_ _ | refine Below.drew ?_ | (simp; done) | (simp; omega))
      case measure => simp [intOf]; omega
    · obtain rfl : k = ps.length := by omega
      have HA := Lib.hid (show areSpansB ps = inB 1 64 ps.length by unfold areSpansB; rw [allB_true hall.out, Bool.and_true])
      by_cases h1 : 1 ≤ ps.length
      · by_cases h2 : ps.length ≤ 64
        · have HN := Lib.hid (show areSpansB ps = true by rw [HA.out, inB_iff]; omega)
          have e1 : (1 : Int) ≤ (ps.length : Int) := by omega
          have e2 : (ps.length : Int) ≤ 64 := by omega
          go_wp2_with fail
          go_ret
          exact ⟨by rw [HN.out]; first | rfl | exact congrArg (fun b => Ending.returned (Value.bool b)) (decide_eq_true (by omega)), HB.out⟩
        · have HN := Lib.hid (show areSpansB ps = false by rw [HA.out, ← Bool.not_eq_true, inB_iff]; omega)
          have e1 : (1 : Int) ≤ (ps.length : Int) := by omega
          have e2 : ¬ (ps.length : Int) ≤ 64 := by omega
          go_wp2_with fail
          go_ret
          exact ⟨by rw [HN.out]; first | rfl | exact congrArg (fun b => Ending.returned (Value.bool b)) (decide_eq_false (by omega)), HB.out⟩
      · have HN := Lib.hid (show areSpansB ps = false by rw [HA.out, ← Bool.not_eq_true, inB_iff]; omega)
        have e1 : ¬ (1 : Int) ≤ (ps.length : Int) := by omega
        go_wp2_with fail
        go_ret
        exact ⟨by rw [HN.out]; rfl, HB.out⟩

end Go.Proofs.Ytkfiepiipigcmaa

namespace Go.Proofs.Ytkfiepiipigcmaa
open Go.RowKit Go.Sort

def stK (ps : List SpanD) (x : Nat) : Int := (ps.getD (x % ps.length) P0).start
/-- What is taken of the first k of a list, and when the last of these ends. -/
def grK (st en : Nat → Int) (L : List Nat) (e0 : Int) : Nat → List Nat × Int
  | 0 => ([], e0)
  | k + 1 => if (grK st en L e0 k).2 ≤ st (L.getD k 0) then ((grK st en L e0 k).1 ++ [L.getD k 0], en (L.getD k 0)) else grK st en L e0 k
/-- Where no span begins before 0 it does not matter whether one starts at -1 or at 0. -/
theorem grK_start (st en : Nat → Int) (L : List Nat) (h : ∀ x, 0 ≤ st x) : ∀ k, (grK st en L (-1) k).1 = (grK st en L 0 k).1 ∧ (k = 0 ∨ (grK st en L (-1) k).2 = (grK st en L 0 k).2)
  | 0 => ⟨rfl, .inl rfl⟩
  | k + 1 => by
    have ih := grK_start st en L h k
    have h0 := h (L.getD k 0)
    simp only [grK]
    rcases ih.2 with e | e
    · subst e
      have a1 : (grK st en L (-1) 0).2 ≤ st (L.getD 0 0) := by show (-1 : Int) ≤ _; omega
      have a2 : (grK st en L 0 0).2 ≤ st (L.getD 0 0) := h0
      rw [if_pos a1, if_pos a2]
      exact ⟨rfl, .inr rfl⟩
    · by_cases c : (grK st en L 0 k).2 ≤ st (L.getD k 0)
      · have c' : (grK st en L (-1) k).2 ≤ st (L.getD k 0) := by rw [e]; exact c
        rw [if_pos c, if_pos c', ih.1]
        exact ⟨rfl, .inr rfl⟩
      · have c' : ¬ (grK st en L (-1) k).2 ≤ st (L.getD k 0) := by rw [e]; exact c
        rw [if_neg c, if_neg c']
        exact ⟨ih.1, .inr e⟩
theorem grK_sub (st en : Nat → Int) (L : List Nat) (e0 : Int) : ∀ k, k ≤ L.length → (grK st en L e0 k).1.Sublist (L.take k)
  | 0, _ => by simp [grK]
  | k + 1, h => by
    have ih := grK_sub st en L e0 k (by omega)
    have e : L.take (k + 1) = L.take k ++ [L.getD k 0] := by
      rw [List.take_add_one, List.getElem?_eq_getElem (by omega), List.getD_eq_getElem?_getD, List.getElem?_eq_getElem (by omega)]
      rfl
    simp only [grK]
    rw [e]
    split
    · exact List.Sublist.append ih (List.Sublist.refl _)
    · exact ih.trans (List.sublist_append_left _ _)
theorem grK_len (st en : Nat → Int) (L : List Nat) (e0 : Int) (k : Nat) (h : k ≤ L.length) : (grK st en L e0 k).1.length ≤ k := by
  have := (grK_sub st en L e0 k h).length_le
  rw [List.length_take] at this
  omega
theorem grK_pos (st en : Nat → Int) (L : List Nat) (h : ∀ x, 0 ≤ st x) : ∀ k, 1 ≤ (grK st en L (-1) (k + 1)).1.length
  | 0 => by
    have a1 : (grK st en L (-1) 0).2 ≤ st (L.getD 0 0) := by show (-1 : Int) ≤ _; have := h (L.getD 0 0); omega
    show 1 ≤ (if (grK st en L (-1) 0).2 ≤ st (L.getD 0 0) then ((grK st en L (-1) 0).1 ++ [L.getD 0 0], en (L.getD 0 0)) else grK st en L (-1) 0).1.length
    rw [if_pos a1]
    simp
  | k + 1 => by
    have ih := grK_pos st en L h k
    show 1 ≤ (if (grK st en L (-1) (k + 1)).2 ≤ st (L.getD (k + 1) 0) then ((grK st en L (-1) (k + 1)).1 ++ [L.getD (k + 1) 0], en (L.getD (k + 1) 0)) else grK st en L (-1) (k + 1)).1.length
    split
    · simp
    · exact ih
/-- The indices below n that a list holds. -/
def setL (n : Nat) (S : List Nat) : List Nat := (List.range n).filter fun i => S.contains i

end Go.Proofs.Ytkfiepiipigcmaa

namespace Go.Proofs.Ytkfiepiipigcmaa
open Go.RowKit Go.Sort

theorem setL_pair (n : Nat) (S : List Nat) : (setL n S).Pairwise (· < ·) := by
  unfold setL
  exact List.Pairwise.filter _ List.pairwise_lt_range
theorem setL_perm {n : Nat} {S : List Nat} (hd : S.Nodup) (hn : ∀ x ∈ S, x < n) : S.Perm (setL n S) := by
  refine (List.perm_ext_iff_of_nodup hd ?_).2 fun a => ?_
  · exact List.Pairwise.imp (fun h => Nat.ne_of_lt h) (setL_pair n S)
  · unfold setL
    simp only [List.mem_filter, List.mem_range, List.contains_iff_mem]
    exact ⟨fun h => ⟨hn a h, h⟩, fun h => h.2⟩
theorem sort_set {n : Nat} {S : List Nat} (hd : S.Nodup) (hn : ∀ x ∈ S, x < n) : (idxs S).mergeSort (fun x y => decide (x ≤ y)) = idxs (setL n S) := by
  have h1 : ((idxs S).mergeSort (fun x y => decide (x ≤ y))).Perm (idxs (setL n S)) := (List.mergeSort_perm _ _).trans ((setL_perm hd hn).map _)
  have h2 : ((idxs S).mergeSort (fun x y => decide (x ≤ y))).Pairwise (fun x y => decide (x ≤ y) = true) := List.pairwise_mergeSort (fun a b c h1 h2 => by simp only [decide_eq_true_eq] at *; omega) (fun a b => by simp only [Bool.or_eq_true, decide_eq_true_eq]; omega) _
  have h3 : (idxs (setL n S)).Pairwise (fun x y => decide (x ≤ y) = true) := by
    unfold idxs
    rw [List.pairwise_map]
    exact List.Pairwise.imp (fun h => by simp only [decide_eq_true_eq]; omega) (setL_pair n S)
  exact h1.eq_of_pairwise (fun a b _ _ x y => by simp only [decide_eq_true_eq] at x y; omega) h2 h3

end Go.Proofs.Ytkfiepiipigcmaa
