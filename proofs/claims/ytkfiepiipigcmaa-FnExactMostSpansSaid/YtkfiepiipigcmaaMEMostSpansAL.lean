/-
  FnExactMostSpans: texts joined: MostS, MarkP, OpenP, LFnExactMostSpans.
-/
import Derived.Deep.Strs
import Derived.Deep.RegionHeld3
import Derived.Deep.Cut
import Derived.Test.YtkfiepiipigcmaaMEMostSpansAA
import Derived.Test.YtkfiepiipigcmaaMEMostSpansAD
import Derived.Test.YtkfiepiipigcmaaMEMostSpansAH
import Derived.Test.YtkfiepiipigcmaaMEMostSpansAK
namespace Go.Proofs.Ytkfiepiipigcmaa
open Go.RowKit Go.Sort

theorem Try.infoBool : (Try.prog.info? 4).map (fun i => (i.zero, i.size, i.bytes)) = some (some (.bool false), 1, 1) := by kernel_rfl

theorem setL_succ (k : Nat) (S : List Nat) : setL (k + 1) S = if S.contains k = true then setL k S ++ [k] else setL k S := by
  unfold setL
  rw [List.range_succ, List.filter_append]
  by_cases h : S.contains k = true
  · rw [if_pos h]; simp at h; simp [h]
  · rw [if_neg h]; simp at h; simp [h]
def flagsV (n : Nat) (S : List Nat) : List Value := (List.range n).map fun i => Value.bool (S.contains i)
theorem flagsV_at {n i : Nat} (S : List Nat) (h : i < n) : (flagsV n S)[i]? = some (.bool (S.contains i)) := by
  unfold flagsV
  rw [List.getElem?_map, List.getElem?_range h]
  rfl

set_option maxHeartbeats 1000000 in
theorem l06Set_any (n : Nat) (S : List Nat) (a : Option Addr) (c : Nat) (w : World) (hn : n ≤ 1000) (h : Slc w (.slice a n c) (flagsV n S)) :
    Calls Try.prog 52 #[.slice a n c] w fun e w' => ∃ u, e = .returned u ∧ OwnI w.heap.size w'.heap.size w' u (idxs (setL n S)) ∧ Below w.heap.size w w' := by
  have HF := Lib.hid h
  clear h
  go_enter Try.func52, Try.ntmps52
  go_wp2_with fail
  go_loopw [3, 4] (fun ov iv wr => ∃ (k m : Nat) (b : Option Addr) (cc : Nat), iv = .int .i64 k ∧ k ≤ n ∧ ov = .slice b m cc ∧ Hid ((setL k S).length = m ∧ m ≤ k) ∧ Hid (wr.ownsRow w.heap.size 2 1 (.slice b m cc) m ((idxs (setL k S)).map I64)) ∧ Hid (Below w.heap.size w wr)) (fun _ iv _ => n + 1 - (intOf iv).toNat)
  case atStart => exact ⟨0, 0, _, _, rfl, Nat.zero_le _, rfl, Lib.hid ⟨rfl, Nat.le_refl _⟩, Lib.hid (owns_emptyB _ _ rfl), Lib.hid ((Below.refl _ _).alloc (Nat.le_refl _) _)⟩
  case round =>
    obtain ⟨k, m, b, cc, rfl, hk, rfl, HM, HO, HB⟩ := hrel
    obtain ⟨wo, rfl⟩ : ∃ wo, wo = wr := ⟨wr, rfl⟩
    have hsz := HB.out.size
    by_cases hlt : k < n
    · have hltI : (k : Int) < (n : Int) := by omega
      have hat := flagsV_at S hlt
      obtain ⟨ub, uo, rfl, hx⟩ : ∃ ub uo, a = some ⟨ub, uo, none⟩ ∧ wo.cell? ⟨ub, uo + k, none⟩ = some (.bool (S.contains k)) := by
        obtain ⟨ub, uo, e, _, hc⟩ := Slc.at (Slc.below HF.out HB.out (Nat.le_refl _)) hat
        exact ⟨ub, uo, e, hc⟩
      have HS := Lib.hid (setL_succ k S)
      obtain ⟨q, hq⟩ : ∃ q, q = S.contains k := ⟨_, rfl⟩
      rw [← hq] at hx HS
      clear hat hq
      cases q
      · have HS2 := Lib.hid (show setL (k + 1) S = setL k S by rw [HS.out]; rfl)
        go_wp2_with fail
        go_roundw
        case rel => exact ⟨k + 1, m, b, cc, by go_num, by omega, rfl, Lib.hid (by rw [HS2.out]; have := HM.out; omega), Lib.hid (by rw [HS2.out]; exact HO.out), HB⟩
        case measure => simp [intOf]; omega
      · have HS2 := Lib.hid (show idxs (setL (k + 1) S) = idxs (setL k S) ++ [(k : Int)] by rw [HS.out]; unfold idxs; simp)
        have hmk := HM.out.2
        go_wp2_with (at_builtin; refine app_ints rfl _ _ rfl w.heap.size (.slice b m cc) m (idxs (setL k S)) rfl (HO.out.alloc _) _ [(k : Int)] rfl (slc_one _ _) (m + 1) (idxs (setL (k + 1) S)) (by simp) HS2.out (by omega) (by simp; omega) ?_; intro b3 c3 w3 hown3 hbl3 _ _)
        go_roundw
        case rel => exact ⟨k + 1, m + 1, b3, c3, by go_num, by omega, rfl, Lib.hid ⟨by have := congrArg List.length HS2.out; rw [idxs_len, List.length_append, idxs_len, HM.out.1] at this; exact this, by omega⟩, Lib.hid hown3, Lib.hid (HB.out.trans (((Below.refl _ _).alloc hsz _).trans hbl3))⟩
        case measure => simp [intOf]; omega
    · obtain rfl : k = n := by omega
      go_wp2_with fail
      go_ret
      exact ⟨_, rfl, OwnI.mk (n := m) HO.out, HB.out⟩

theorem flagsV_len (n : Nat) (S : List Nat) : (flagsV n S).length = n := by unfold flagsV; simp
theorem flagsV_zero (n : Nat) : flagsV n [] = List.replicate n (.bool false) := by
  unfold flagsV
  rw [List.eq_replicate_iff]
  refine ⟨by simp, ?_⟩
  intro b hb
  rw [List.mem_map] at hb
  obtain ⟨a, _, rfl⟩ := hb
  rfl
theorem flagsV_set {n x : Nat} (S : List Nat) (h : x < n) : (flagsV n S).set x (.bool true) = flagsV n (S ++ [x]) := by
  refine List.ext_getElem? ?_
  intro d
  rw [List.getElem?_set]
  by_cases hd : d < n
  · rw [flagsV_at _ hd, flagsV_at _ hd, flagsV_len]
    by_cases e : x = d
    · subst e
      rw [if_pos rfl, if_pos h]
      simp
    · rw [if_neg e]
      have : ¬ d = x := fun e2 => e e2.symm
      simp [this]
  · have h1 : (flagsV n S)[d]? = none := by rw [List.getElem?_eq_none]; rw [flagsV_len]; omega
    have h2 : (flagsV n (S ++ [x]))[d]? = none := by rw [List.getElem?_eq_none]; rw [flagsV_len]; omega
    rw [if_neg (by omega), h1, h2]

set_option maxHeartbeats 4000000 in
set_option maxRecDepth 4000 in
theorem mostSpansS_any (v : Value) (ps : List SpanD) (w : World) (h : RdP w v ps) :
    Calls Try.prog 10 #[v] w fun e w' => ∃ v', e = .returned (.tuple #[v', .bool (areSpansB ps)]) ∧ OwnI w.heap.size w'.heap.size w' v' (mostL ps) ∧ Below w.heap.size w w' := by
  have HA := Lib.hid (l06Spans_any v ps w h)
  obtain ⟨q, hq⟩ : ∃ q, areSpansB ps = q := ⟨_, rfl⟩
  rw [hq] at HA ⊢
  have HQ := Lib.hid hq
  clear hq
  obtain ⟨a, c, rfl⟩ := h.shape
  obtain ⟨i0, hi, hz0, hz1, hz2⟩ := info_parts Try.infoBool
  have HR := Lib.hid h
  clear h
  go_enter Try.func10, Try.ntmps10
  cases q
  · go_wp2_with (go_at_call 50; refine HA.out.mono ?_; rintro e w1 ⟨rfl, hb⟩)
    go_ret2
    refine ⟨.slice none 0 0, rfl, ?_, hb⟩
    rw [show mostL ps = [] by unfold mostL; rw [HQ.out]; rfl]
    exact ⟨World.ownsRow_nil _ _ _ _, by intro g hg; cases hg⟩
  have hl : 1 ≤ ps.length ∧ ps.length ≤ 64 := by
    have := HQ.out
    unfold areSpansB at this
    rw [Bool.and_eq_true, inB_iff] at this
    omega
  have hl1 := hl.1
  have hl2 := hl.2
  clear hl
  have HBT := Lib.hid (fun W (hb : Below w.heap.size w W) => l06ByTo_any ps _ W (HR.out.up hb (Nat.le_refl _)) (by omega))
  have hlI : (ps.length : Int) ≤ 64 := by omega
  go_upto_region 3 with (go_at_call 50; refine HA.out.mono ?_; rintro e w1 ⟨rfl, hb⟩)
  have HB1 := Lib.hid hb
  have hz1s := HB1.out.size
  clear hb HA
  go_upto_region 4 with (at_make; refine wpList_make_full _ rfl _ _ 73 rfl w1.heap.size 4 i0 (.bool false) 1 Try.underlying73 hi hz0 hz1 .i64 .i64 ps.length ps.length ps.length rfl rfl rfl rfl (by rw [hz2]; omega) (by simp [maxLen]; omega) (by simp) ?_; intro w2 hown hgrow)
  have hb2 : Below w1.heap.size w1 w2 := (Below.refl _ _).grown hgrow (Nat.le_refl _) (by intro k hk; cases hk)
  have hz : (madeCells (Value.bool false).cells (ps.length * 1)).toList = flagsV ps.length [] := by
    rw [flagsV_zero]; simpa [Value.cells] using toList_madeCells_one (Value.bool false) ps.length
  rw [hz] at hown
  obtain ⟨g, hg⟩ : ∃ g, g = w1.heap.size := ⟨_, rfl⟩
  rw [← hg] at hown ⊢
  have hgl : g < w2.heap.size := (owns_lt hown (k := g) rfl).2
  have HO2 := Lib.hid hown
  have HB2 := Lib.hid (HB1.out.trans (hb2.mono hz1s))
  have hz2s := HB2.out.size
  have HG0 := Lib.hid (show w.heap.size ≤ g by omega)
  clear hown hb2 hz hgrow hg
  go_upto_region 5 with (go_at_call 51; refine (HBT.out _ HB2.out).mono ?_; rintro e w3 ⟨u, rfl, hu, hb⟩; obtain ⟨ua, uc, rfl⟩ := hu.rd.shape)
  have HLN := Lib.hid (show (idxs (ordL (toK ps) ps.length)).length = ps.length by rw [idxs_len, ordL_len])
  rw [HLN.out] at hu ⊢
  have HU := Lib.hid hu
  have HO3 := Lib.hid (owns_below HO2.out hb (Nat.le_refl _))
  have HB3 := Lib.hid (HB2.out.trans (hb.mono hz2s))
  have hz3 := HB3.out.size
  have hz23 := hb.size
  clear hu hb HBT HB1 HB2 HO2
  go_wp2_with fail
  go_loopw [6, 7] (fun ev iv wr => ∃ (k : Nat), iv = .int .i64 k ∧ k ≤ ps.length ∧ ev = .int .i64 (grK (stK ps) (toK ps) (ordL (toK ps) ps.length) 0 k).2 ∧ Hid (wr.ownsRow g 4 1 (.slice (some ⟨g, 0, none⟩) ps.length ps.length) ps.length (flagsV ps.length (grK (stK ps) (toK ps) (ordL (toK ps) ps.length) 0 k).1)) ∧ Hid (Kept (· = g) w3 wr)) (fun _ iv _ => ps.length + 1 - (intOf iv).toNat)
  case atStart => exact ⟨0, rfl, Nat.zero_le _, rfl, HO3, Lib.hid (Kept.refl _ _)⟩
  case round =>
    obtain ⟨k, rfl, hk, rfl, HO, HK⟩ := hrel
    obtain ⟨wo, rfl⟩ : ∃ wo, wo = wr := ⟨wr, rfl⟩
    have HB := Lib.hid (HB3.out.trans (HK.out.toBelow hz3 (fun k h1 h2 => by have := HG0.out; omega)))
    by_cases hlt : k < ps.length
    · have hltI : (k : Int) < (ps.length : Int) := by omega
      have hkl : k < (idxs (ordL (toK ps) ps.length)).length := by rw [HLN.out]; exact hlt
      obtain ⟨ub, uo, rfl, _, hx⟩ := (HU.out.kept HK.out (fun b h1 h2 h3 => by omega)).rd.at hkl
      obtain ⟨x, hxe⟩ : ∃ x, x = (ordL (toK ps) ps.length).getD k 0 := ⟨_, rfl⟩
      have hxv : (idxs (ordL (toK ps) ps.length)).getD k 0 = (x : Int) := by
        rw [hxe]
        unfold idxs
        have hk2 : k < (ordL (toK ps) ps.length).length := by rw [ordL_len]; exact hlt
        rw [List.getD_eq_getElem?_getD, List.getElem?_map, List.getD_eq_getElem?_getD, List.getElem?_eq_getElem hk2]
        rfl
      have hxn : x < ps.length := by
        have hk2 : k < (ordL (toK ps) ps.length).length := by rw [ordL_len]; exact hlt
        rw [hxe, List.getD_eq_getElem?_getD, List.getElem?_eq_getElem hk2]
        exact ordL_lt _ _ _ (List.getElem_mem _)
      rw [hxv] at hx
      obtain ⟨pb, po, rfl, _, d0, d1, _⟩ := (HR.out.up HB.out (Nat.le_refl _)).at hxn
      have hxI : (x : Int) < (ps.length : Int) := by omega
      have hs0 : stK ps x = (ps.getD x P0).start := by unfold stK; rw [Nat.mod_eq_of_lt hxn]
      have ht0 : toK ps x = (ps.getD x P0).stop := by unfold toK; rw [Nat.mod_eq_of_lt hxn]
      rw [← hs0] at d0
      rw [← ht0] at d1
      have HG := Lib.hid (show grK (stK ps) (toK ps) (ordL (toK ps) ps.length) 0 (k + 1) = if (grK (stK ps) (toK ps) (ordL (toK ps) ps.length) 0 k).2 ≤ stK ps x then ((grK (stK ps) (toK ps) (ordL (toK ps) ps.length) 0 k).1 ++ [x], toK ps x) else grK (stK ps) (toK ps) (ordL (toK ps) ps.length) 0 k by rw [hxe]; rfl)
      obtain ⟨G, hG⟩ : ∃ G, G = grK (stK ps) (toK ps) (ordL (toK ps) ps.length) 0 k := ⟨_, rfl⟩
      rw [← hG] at HG HO ⊢
      obtain ⟨S, e⟩ := G
      simp only at HG HO ⊢
      obtain ⟨y, hy⟩ : ∃ y, y = stK ps x := ⟨_, rfl⟩
      obtain ⟨z, hz⟩ : ∃ z, z = toK ps x := ⟨_, rfl⟩
      rw [← hy] at d0 HG
      rw [← hz] at d1 HG
      have HZ := Lib.hid (show (ps.getD x P0).stop = z by rw [hz, ht0])
      have hd := HO.out.cellAt x (by omega)
      have hf := HO.out.frozenAt x
      rw [flagsV_at _ hxn] at hd
      have HST := Lib.hid (show (wo.setCell ⟨g, x, none⟩ (.bool true)).ownsRow g 4 1 (.slice (some ⟨g, 0, none⟩) ps.length ps.length) ps.length (flagsV ps.length (S ++ [x])) by rw [← flagsV_set _ hxn]; exact (HO.out.stored x (.bool true)).1)
      have HKS := Lib.hid (show Kept (· = g) w3 (wo.setCell ⟨g, x, none⟩ (.bool true)) from HK.out.setCell (.inr rfl) _)
      have HBS := Lib.hid (HB3.out.trans (HKS.out.toBelow hz3 (fun k h1 h2 => by have := HG0.out; omega)))
      obtain ⟨pb2, po2, ee, _, _, d1', _⟩ := (HR.out.up HBS.out (Nat.le_refl _)).at hxn
      simp only [Option.some.injEq, Addr.mk.injEq, and_true] at ee
      obtain ⟨rfl, rfl⟩ := ee
      rw [HZ.out] at d1'
      obtain ⟨ub2, uo2, ee, _, hx'⟩ := (HU.out.kept HKS.out (fun b h1 h2 h3 => by omega)).rd.at hkl
      simp only [Option.some.injEq, Addr.mk.injEq, and_true] at ee
      obtain ⟨rfl, rfl⟩ := ee
      rw [hxv] at hx'
      clear hxe hxv hs0 ht0 hG hy hz
      by_cases c : e ≤ y
      · have HG2 := Lib.hid (show grK (stK ps) (toK ps) (ordL (toK ps) ps.length) 0 (k + 1) = (S ++ [x], z) by rw [HG.out, if_pos c])
        go_wp2_with fail
        go_roundw
        case rel => exact ⟨k + 1, by go_num, by omega, by rw [HG2.out], Lib.hid (by rw [HG2.out]; exact HST.out), HKS⟩
        case measure => simp [intOf]; omega
      · have HG2 := Lib.hid (show grK (stK ps) (toK ps) (ordL (toK ps) ps.length) 0 (k + 1) = (S, e) by rw [HG.out, if_neg c])
        go_wp2_with fail
        go_roundw
        case rel => exact ⟨k + 1, by go_num, by omega, by rw [HG2.out], Lib.hid (by rw [HG2.out]; exact HO.out), HK⟩
        case measure => simp [intOf]; omega
    · obtain rfl : k = ps.length := by omega
      have hst : ∀ x, 0 ≤ stK ps x := by
        intro x
        have h1 := HQ.out
        unfold areSpansB at h1
        rw [Bool.and_eq_true, allB_iff] at h1
        have h2 := h1.2 (x % ps.length) (Nat.mod_lt _ (by omega))
        unfold spanB at h2
        rw [Bool.and_eq_true, inB_iff] at h2
        exact h2.1.1
      have hM : (grK (stK ps) (toK ps) (ordL (toK ps) ps.length) 0 ps.length).1 = mostS ps := (grK_start _ _ _ hst ps.length).1.symm
      rw [hM] at HO
      have HML := Lib.hid (show mostL ps = idxs (setL ps.length (mostS ps)) by unfold mostL; rw [HQ.out]; rfl)
      have HC := Lib.hid (l06Set_any ps.length (mostS ps) _ ps.length wo (by omega) (slc_of_owns HO.out))
      obtain ⟨G, hG⟩ : ∃ G, G = (grK (stK ps) (toK ps) (ordL (toK ps) ps.length) 0 ps.length).2 := ⟨_, rfl⟩
      rw [← hG]
      clear hst hM hG
      have hzo := HB.out.size
      go_wp2_with (go_at_call 52; refine HC.out.mono ?_; rintro e w4 ⟨u, rfl, ho4, hb4⟩)
      go_ret2
      refine ⟨u, rfl, ?_, HB.out.trans (hb4.mono hzo)⟩
      rw [HML.out]
      exact ho4.wide hzo (Nat.le_refl _)

theorem mostL_cnt (ps : List SpanD) : cntI (mostL ps) ≤ 1048576 := by
  unfold cntI mostL
  split
  · rename_i h
    unfold areSpansB at h
    rw [Bool.and_eq_true, inB_iff] at h
    rw [idxs_len]
    have h2 : (setL ps.length (mostS ps)).length ≤ ps.length := by
      unfold setL
      refine Nat.le_trans (List.length_filter_le _ _) ?_
      rw [List.length_range]
      exact Nat.le_refl _
    omega
  · simp

end Go.Proofs.Ytkfiepiipigcmaa

namespace Go.Proofs.Ytkfiepiipigcmaa
open Go.RowKit

/-- The marks of spans. -/
def mkdP (k : Int) (ps : List SpanD) : List SpanD := (List.range ps.length).map fun (i : Nat) => ⟨k + 3 * i, k + 3 * i + 1, k + 3 * i + 2⟩
theorem cntP_le (ps : List SpanD) : cntP ps ≤ 3 * bulkP ps := by unfold cntP bulkP; omega
theorem mkdP_len (k : Int) (ps : List SpanD) : (mkdP k ps).length = ps.length := by simp [mkdP]

/-- The first m spans marked. -/
def mkpP (k : Int) (ps : List SpanD) (m : Nat) : List SpanD := (List.range ps.length).map fun (i : Nat) => if i < m then ⟨k + 3 * i, k + 3 * i + 1, k + 3 * i + 2⟩ else ps.getD i P0
theorem mkpP_len (k : Int) (ps : List SpanD) (m : Nat) : (mkpP k ps m).length = ps.length := by simp [mkpP]
theorem mkpP_zero (k : Int) (ps : List SpanD) : mkpP k ps 0 = ps := by
  apply List.ext_getElem?
  intro i
  by_cases h : i < ps.length
  · simp [mkpP, h]
  · simp [mkpP, h]
theorem mkpP_full (k : Int) (ps : List SpanD) : mkpP k ps ps.length = mkdP k ps := by
  apply List.ext_getElem?
  intro i
  by_cases h : i < ps.length
  · simp [mkpP, mkdP, h]
  · simp [mkpP, mkdP, h]
theorem mkpP_set (k : Int) (ps : List SpanD) (m : Nat) (hm : m < ps.length) : mkpP k ps (m + 1) = (mkpP k ps m).set m ⟨k + 3 * m, k + 3 * m + 1, k + 3 * m + 2⟩ := by
  apply List.ext_getElem?
  intro i
  rw [List.getElem?_set]
  by_cases h : i < ps.length
  · by_cases he : m = i
    · subst he; simp [mkpP, h]
    · have e : (i < m + 1) = (i < m) := by rw [eq_iff_iff]; omega
      simp [mkpP, h, he, e]
  · by_cases he : m = i
    · omega
    · simp [mkpP, h, he]
theorem ownsP_some {w : World} {lo size : Nat} {e : TypeId} {a : Option Addr} {n cap : Nat} {vs : List Value} (h : w.ownsRow lo e size (.slice a n cap) n vs) (hn : 0 < n) : ∃ g, a = some ⟨g, 0, none⟩ ∧ lo ≤ g := by
  rcases h.2 with ⟨e, e2⟩ | ⟨g, cap', cur, e, hb, _⟩
  · simp at e; omega
  · simp only [Value.slice.injEq, true_and] at e
    exact ⟨g, e.1, hb⟩

set_option maxHeartbeats 1000000 in
theorem markP_o (v : Value) (lo hi : Nat) (ps : List SpanD) (k : Int) (w : World) (ho : OwnP lo hi w v ps) (h0 : 0 ≤ k) (h1 : k + cntP ps ≤ 1099511627776) :
    Calls Try.prog 15 #[v, .int .i64 k] w fun e w' => e = .returned (.int .i64 (k + cntP ps)) ∧ OwnP lo hi w' v (mkdP k ps) ∧ Kept (fun b => lo ≤ b ∧ b < hi) w w' := by
  obtain ⟨a, c, rfl⟩ := ho.rd.shape
  have hl := ho.rd.len
  unfold maxLen at hl
  unfold cntP at h1 ⊢
  have HO := Lib.hid ho
  clear ho
  go_enter Try.func15, Try.ntmps15
  go_wp2_with fail
  go_loopw [1, 5] (fun kk i wr => ∃ j : Nat, i = .int .i64 j ∧ j ≤ ps.length ∧ kk = .int .i64 (k + 3 * j) ∧ wr.ownsRow lo 41 3 (.slice a ps.length c) ps.length (spansC (mkpP k ps j)) ∧ Kept (fun b => lo ≤ b ∧ b < hi) w wr) (fun _ i _ => ps.length - (intOf i).toNat)
  case atStart => exact ⟨0, rfl, Nat.zero_le _, by simp, by rw [mkpP_zero]; exact HO.out.1, Kept.refl _ _⟩
  case round =>
    obtain ⟨j, rfl, hj, rfl, hown, hkp⟩ := hrel
    have HO1 := Lib.hid hown
    have HK1 := Lib.hid hkp
    clear hkp
    by_cases hlt : j < ps.length
    · obtain ⟨g, rfl, hlo⟩ := ownsP_some hown (by omega)
      have hhi := HO.out.2 g rfl
      clear hown
      have hlen := mkpP_len k ps j
      have d0 := HO1.out.cellAt (j * 3) (by omega)
      have d1 := HO1.out.cellAt (j * 3 + 1) (by omega)
      have d2 := HO1.out.cellAt (j * 3 + 2) (by omega)
      have e0 := spansC_at (mkpP k ps j) j 0 (by omega) (by omega)
      rw [Nat.add_zero] at e0
      rw [e0] at d0
      rw [spansC_at (mkpP k ps j) j 1 (by omega) (by omega)] at d1
      rw [spansC_at (mkpP k ps j) j 2 (by omega) (by omega)] at d2
      generalize (mkpP k ps j).getD j P0 = old at d0 d1 d2
      simp only [spanCells, List.getElem?_cons_zero, List.getElem?_cons_succ, I64] at d0 d1 d2
      have f0 := HO1.out.frozenAt (j * 3)
      have f1 := HO1.out.frozenAt (j * 3 + 1)
      have f2 := HO1.out.frozenAt (j * 3 + 2)
      have HST := Lib.hid (((HO1.out.stored (j * 3) (.int .i64 (k + 3 * j))).1.stored (j * 3 + 1) (.int .i64 (k + 3 * j + 1))).1.stored (j * 3 + 2) (.int .i64 (k + 3 * j + 2))).1
      have HSET := Lib.hid (mkpP_set k ps j hlt)
      have HJC := Lib.hid (spansC_set (mkpP k ps j) j (k + 3 * j) (k + 3 * j + 1) (k + 3 * j + 2) (by omega))
      clear e0 hlen
      have s1 : k + 3 * (j : Int) + 1 + 1 = k + 3 * (j : Int) + 2 := by omega
      go_wp2_with fail
      go_roundw
      case rel =>
        refine ⟨j + 1, by go_num, by omega, congrArg (Value.int IntKind.i64) (by push_cast; omega), ?_, ((HK1.out.setCell (.inr ⟨hlo, hhi⟩) _).setCell (.inr ⟨hlo, hhi⟩) _).setCell (.inr ⟨hlo, hhi⟩) _⟩
        rw [HSET.out, ← HJC.out]
        exact HST.out
      case measure => simp [intOf]; omega
    · clear hown
      obtain rfl : j = ps.length := by omega
      go_wp2_with fail
      go_ret
      refine ⟨congrArg (fun x => Ending.returned (Value.int IntKind.i64 x)) (by push_cast; omega), ⟨?_, HO.out.2⟩, HK1.out⟩
      have h := HO1.out
      rw [mkpP_full] at h
      rw [mkdP_len]
      exact h

end Go.Proofs.Ytkfiepiipigcmaa

namespace Go.Proofs.Ytkfiepiipigcmaa
open Go.ChangeShapes Go.WideShapes Go.ChangeAt Go.RowKit
set_option linter.unusedVariables false

def WfP (ps : List SpanD) : Prop := True

section
variable {H : Type} {enc : TypeId × Value → H} {w : World} {base : Nat} {spare : Nat → Bool} {held : Bool}

theorem cells_three {a : Addr} {cs : List Value} (h : w.cells? base a (0 + 3) = some cs) : ∃ v0 v1 v2, cs = [v0, v1, v2] ∧ w.cell? (a.add 0) = some v0 ∧ w.cell? (a.add 1) = some v1 ∧ w.cell? (a.add 2) = some v2 := by
  simp only [World.cells?, Nat.zero_add] at h
  split at h
  · rw [show List.range 3 = [0, 1, 2] from rfl] at h
    cases h0 : w.cell? (a.add 0) with
    | none => rw [List.mapM_cons, h0] at h; simp at h
    | some v0 =>
      cases h1 : w.cell? (a.add 1) with
      | none => rw [List.mapM_cons, h0, List.mapM_cons, h1] at h; simp at h
      | some v1 =>
        cases h2 : w.cell? (a.add 2) with
        | none => rw [List.mapM_cons, h0, List.mapM_cons, h1, List.mapM_cons, h2] at h; simp at h
        | some v2 =>
          rw [List.mapM_cons, h0, List.mapM_cons, h1, List.mapM_cons, h2] at h
          simp at h
          exact ⟨v0, v1, v2, h.symm, rfl, rfl, rfl⟩
  · cases h

theorem cells_span : Try.prog.cellsOf 77 = 3 := by kernel_rfl
theorem cells_spans : Try.prog.cellsOf 22 = 1 := by kernel_rfl

set_option maxRecDepth 100000 in
theorem trod_Pa {fuel : Nat} {cs : List Value} {x : DataW H × List MemPlace} (h : DataW.trod enc Try.prog w base spare held fuel 77 cs = some x) : ∃ j : SpanD, cs = spanCells j := by
  obtain ⟨y0, y1, y2, n, _, hl, h0, h1, h2⟩ := Go.Deep.trod_struct3 Try.underlying77 h
  rw [cells_span] at hl
  match cs, hl with
  | [a, b, c], _ =>
    rw [cells_i64'] at h0 h1 h2
    obtain ⟨z0, e0⟩ := trod_i64 h0
    obtain ⟨z1, e1⟩ := trod_i64 h1
    obtain ⟨z2, e2⟩ := trod_i64 h2
    simp at e0 e1 e2
    subst e0 e1 e2
    exact ⟨⟨z0, z1, z2⟩, rfl⟩

set_option maxRecDepth 100000 in
theorem trod_P {fuel : Nat} {cs : List Value} {x : DataW H × List MemPlace} (h : DataW.trod enc Try.prog w base spare held fuel 22 cs = some x) : ∃ v ps, cs = [v] ∧ RdP w v ps := by
  rcases DataW.trod_slice Try.underlying22 h with ⟨rfl, _⟩ | ⟨a, len, cap, elems, rest, n, _, rfl, _, hb, hl, hm, hlen, hel, _, _⟩
  · exact ⟨_, [], rfl, .inl ⟨none, 0, rfl, by simp [maxLen], rfl⟩⟩
  · rw [cells_span] at hel
    have hex : ∀ i, i < len → ∃ q : SpanD, (i = 0 → ∃ b off, a = ⟨b, off, none⟩) ∧ (∀ c u, (spanCells q)[c]? = some u → w.cell? ((a.add (i * 3)).add c) = some u) := by
      intro i hi
      have h1 := hel i hi
      rw [List.getElem?_eq_getElem (by omega)] at h1
      cases hc : w.cells? base (a.add (i * 3)) 3 with
      | none => rw [hc] at h1; simp at h1
      | some cs' =>
        rw [hc] at h1
        simp only [Option.bind_some] at h1
        obtain ⟨v0, v1, v2, rfl, q0, q1, q2⟩ := cells_three hc
        obtain ⟨q, e⟩ := trod_Pa h1
        simp [spanCells] at e
        obtain ⟨rfl, rfl, rfl⟩ := e
        refine ⟨q, ?_, ?_⟩
        · rintro rfl
          obtain ⟨b, off, ha⟩ := add_plain q0
          exact ⟨b, off, by simpa [Addr.add] using ha⟩
        · intro c u hu
          match c, hu with
          | 0, hu => simp [spanCells] at hu; subst hu; exact q0
          | 1, hu => simp [spanCells] at hu; subst hu; exact q1
          | 2, hu => simp [spanCells] at hu; subst hu; exact q2
          | c + 3, hu => simp [spanCells] at hu
    obtain ⟨l, hll, hlp⟩ := exists_list _ len hex
    by_cases hz : len = 0
    · subst hz
      exact ⟨_, [], rfl, .inl ⟨some a, cap, rfl, hm, rfl⟩⟩
    · have h0 : l[0]? = some (l[0]'(by omega)) := List.getElem?_eq_getElem (by omega)
      obtain ⟨b, off, rfl⟩ := (hlp 0 _ h0).1 rfl
      refine ⟨_, l, rfl, .inr ⟨b, off, cap, by simp [hll], by omega, hm, fun i hi c u hu => ?_⟩⟩
      have hg : l[i]? = some (l.getD i P0) := by simp [hi]
      have h5 := (hlp i _ hg).2 c u hu
      have e : ((⟨b, off, none⟩ : Addr).add (i * 3)).add c = ⟨b, off + i * 3 + c, none⟩ := by
        unfold Addr.add
        by_cases q1 : i * 3 = 0 <;> by_cases q2 : c = 0 <;> simp [q1, q2]
      rwa [e] at h5

set_option maxRecDepth 100000 in
theorem arg_P {r : Reach} {b0 : Nat} {v : Value} {d : DataW H} {p : List MemPlace} (hv : Value.okWide Try.prog w r b0 22 v) (h : DataW.Trod enc Try.prog w base spare held 22 v d p) : ∃ zs, RdP w v zs ∧ WfP zs := by
  obtain ⟨a, len, cap, rfl⟩ := okWide_slice Try.underlying22 hv
  obtain ⟨fuel, hf⟩ := h
  obtain ⟨v, zs, e, h1⟩ := trod_P hf
  simp [Value.cells] at e
  subst e
  exact ⟨zs, h1, trivial⟩
end
end Go.Proofs.Ytkfiepiipigcmaa

namespace Go.Proofs.Ytkfiepiipigcmaa
open Go.RowKit

set_option maxHeartbeats 4000000 in
set_option maxRecDepth 100000 in
theorem lawMostSpans_any (w : World) (v0 : Value) (z0 : List SpanD) (r0 : RdP w v0 z0) :
    Calls Try.prog 3 #[v0] w fun e w' => e = .returned (.bool true) ∧ Below w.heap.size w w' := by
  obtain ⟨x0, c0, rfl⟩ := r0.shape
  have l0_0 : z0.length ≤ 9223372036854775807 := by have := RdP.len r0; unfold maxLen at this; omega
  have RP0 := Lib.hid r0
  clear r0
  have B : Hid (Below w.heap.size w w) := Below.refl _ _
  go_enter Try.func3, Try.ntmps3
  go_upto_region 2 with fail
  go_wp2_with fail
  refine (szP_any _ z0 _ _ (RP0.out.up B.out (Nat.le_refl _)) (by decide) (by decide)).mono ?_
  rintro e w1 ⟨s0, rfl, sa0, sb0, sc0, hb⟩
  replace B := Lib.hid (B.out.trans (hb.mono B.out.size))
  have zw1 : w.heap.size ≤ w1.heap.size := hb.size
  clear hb
  by_cases hn0 : s0 < 0
  · go_wp2_with fail
    go_ret
    exact ⟨rfl, B.out⟩
  have hs0 : bulkP z0 ≤ 1048576 := by have := sc0 (by omega); omega
  clear sa0 sb0 sc0
  have ne1 : ((areSpansB z0) != (areSpansB z0)) = false := by simp
  go_upto_region 5 with fail
  go_wp2_with fail
  refine (toP_any _ z0 _ (RP0.out.up B.out (Nat.le_refl _)) hs0).mono ?_
  rintro e w2 ⟨vc0, rfl, c0, hb⟩
  replace c0 := Lib.hid c0
  replace B := Lib.hid (B.out.trans (hb.mono B.out.size))
  have zw2 : w1.heap.size ≤ w2.heap.size := hb.size
  clear hb
  go_wp2_with fail
  refine (mostSpansS_any _ z0 _ c0.out.rd).mono ?_
  rintro e w3 ⟨Wv0, rfl, Wo0, hb⟩
  replace Wo0 := Lib.hid Wo0
  replace B := Lib.hid (B.out.trans (hb.mono B.out.size))
  replace c0 := Lib.hid (c0.out.up hb (Nat.le_refl _))
  have zw3 : w2.heap.size ≤ w3.heap.size := hb.size
  clear hb
  clear c0
  go_upto_region 6 with fail
  go_wp2_with fail
  refine (toP_any _ z0 _ (RP0.out.up B.out (Nat.le_refl _)) hs0).mono ?_
  rintro e w4 ⟨vcp0, rfl, cp0, hb⟩
  replace cp0 := Lib.hid cp0
  replace B := Lib.hid (B.out.trans (hb.mono B.out.size))
  replace Wo0 := Lib.hid (Wo0.out.up hb (Nat.le_refl _))
  have zw4 : w3.heap.size ≤ w4.heap.size := hb.size
  clear hb
  go_upto_region 7 with fail
  go_wp2_with fail
  refine (mostI_any _ z0 _ cp0.out.rd).mono ?_
  rintro e w5 ⟨Gv0, rfl, Go0, hb⟩
  replace Go0 := Lib.hid Go0
  replace B := Lib.hid (B.out.trans (hb.mono B.out.size))
  replace Wo0 := Lib.hid (Wo0.out.up hb (Nat.le_refl _))
  replace cp0 := Lib.hid (cp0.out.up hb (Nat.le_refl _))
  have zw5 : w4.heap.size ≤ w5.heap.size := hb.size
  clear hb
  go_upto_region 8 with fail
  go_wp2_with fail
  refine (eqI_same _ _ (mostL z0) _ Go0.out.rd Wo0.out.rd).mono ?_
  rintro e w6 ⟨rfl, hb⟩
  replace B := Lib.hid (B.out.trans (hb.mono B.out.size))
  replace Wo0 := Lib.hid (Wo0.out.up hb (Nat.le_refl _))
  replace cp0 := Lib.hid (cp0.out.up hb (Nat.le_refl _))
  replace Go0 := Lib.hid (Go0.out.up hb (Nat.le_refl _))
  have zw6 : w5.heap.size ≤ w6.heap.size := hb.size
  clear hb
  go_upto_region 10 with fail
  go_wp2_with fail
  refine (toP_any _ z0 _ (RP0.out.up B.out (Nat.le_refl _)) hs0).mono ?_
  rintro e w7 ⟨vc0, rfl, c0, hb⟩
  replace c0 := Lib.hid c0
  replace B := Lib.hid (B.out.trans (hb.mono B.out.size))
  replace Wo0 := Lib.hid (Wo0.out.up hb (Nat.le_refl _))
  replace cp0 := Lib.hid (cp0.out.up hb (Nat.le_refl _))
  replace Go0 := Lib.hid (Go0.out.up hb (Nat.le_refl _))
  have zw7 : w6.heap.size ≤ w7.heap.size := hb.size
  clear hb
  go_wp2_with fail
  refine (eqP_same _ _ z0 _ cp0.out.rd c0.out.rd).mono ?_
  rintro e w8 ⟨rfl, hb⟩
  replace B := Lib.hid (B.out.trans (hb.mono B.out.size))
  replace Wo0 := Lib.hid (Wo0.out.up hb (Nat.le_refl _))
  replace cp0 := Lib.hid (cp0.out.up hb (Nat.le_refl _))
  replace Go0 := Lib.hid (Go0.out.up hb (Nat.le_refl _))
  replace c0 := Lib.hid (c0.out.up hb (Nat.le_refl _))
  have zw8 : w7.heap.size ≤ w8.heap.size := hb.size
  clear hb
  clear c0
  have hk0 : (0 : Int) ≤ 1 := by decide
  have hc0 : (0 : Int) ≤ (cntP z0 : Nat) := by omega
  go_upto_region 13 with fail
  go_wp2_with fail
  refine (markP_o _ _ _ z0 _ _ cp0.out (by omega) (by have := cntP_le z0; omega)).mono ?_
  rintro e w9 ⟨rfl, -, hb⟩
  replace B := Lib.hid (B.out.trans (hb.toBelow B.out.size (by rintro k hk1 ⟨h1, h2⟩; omega)))
  replace Wo0 := Lib.hid (Wo0.out.kept hb (by rintro b h1 h2 ⟨h3, h4⟩; omega))
  replace Go0 := Lib.hid (Go0.out.kept hb (by rintro b h1 h2 ⟨h3, h4⟩; omega))
  have zw9 : w8.heap.size ≤ w9.heap.size := hb.size
  clear hb
  clear cp0
  go_upto_region 14 with fail
  go_wp2_with fail
  refine (eqI_same _ _ (mostL z0) _ Go0.out.rd Wo0.out.rd).mono ?_
  rintro e w10 ⟨rfl, hb⟩
  replace B := Lib.hid (B.out.trans (hb.mono B.out.size))
  replace Wo0 := Lib.hid (Wo0.out.up hb (Nat.le_refl _))
  replace Go0 := Lib.hid (Go0.out.up hb (Nat.le_refl _))
  have zw10 : w9.heap.size ≤ w10.heap.size := hb.size
  clear hb
  have hcGo0 : (0 : Int) ≤ (cntI (mostL z0) : Nat) := by omega
  have Go0h := Go0
  clear Go0h
  go_upto_region 17 with fail
  go_wp2_with fail
  refine (markI_o _ _ _ (mostL z0) _ _ Go0.out (by omega) (by have := mostL_cnt z0; omega)).mono ?_
  rintro e w11 ⟨rfl, MGo0, hb⟩
  replace MGo0 := Lib.hid MGo0
  replace B := Lib.hid (B.out.trans (hb.toBelow B.out.size (by rintro k hk1 ⟨h1, h2⟩; omega)))
  replace Wo0 := Lib.hid (Wo0.out.kept hb (by rintro b h1 h2 ⟨h3, h4⟩; omega))
  have zw11 : w10.heap.size ≤ w11.heap.size := hb.size
  clear hb
  clear Go0
  have nm : ((1 + (cntI (mostL z0) : Int) : Int) != (1 + (cntI (mostL z0) : Int) : Int)) = false := by simp
  go_upto_region 19 with fail
  go_wp2_with fail
  refine (heldI_o _ (mostL z0) _ _ MGo0.out.rd (by omega) (by have := mostL_cnt z0; omega)).mono ?_
  rintro e w12 ⟨rfl, hb⟩
  replace B := Lib.hid (B.out.trans (hb.mono B.out.size))
  replace Wo0 := Lib.hid (Wo0.out.up hb (Nat.le_refl _))
  replace MGo0 := Lib.hid (MGo0.out.up hb (Nat.le_refl _))
  have zw12 : w11.heap.size ≤ w12.heap.size := hb.size
  clear hb
  go_upto_region 24 with fail
  go_wp2_with fail
  refine (toP_any _ z0 _ (RP0.out.up B.out (Nat.le_refl _)) hs0).mono ?_
  rintro e w13 ⟨vc0, rfl, c0, hb⟩
  replace c0 := Lib.hid c0
  replace B := Lib.hid (B.out.trans (hb.mono B.out.size))
  replace Wo0 := Lib.hid (Wo0.out.up hb (Nat.le_refl _))
  replace MGo0 := Lib.hid (MGo0.out.up hb (Nat.le_refl _))
  have zw13 : w12.heap.size ≤ w13.heap.size := hb.size
  clear hb
  go_wp2_with fail
  refine (mostI_any _ z0 _ c0.out.rd).mono ?_
  rintro e w14 ⟨Hv0, rfl, Ho0, hb⟩
  replace Ho0 := Lib.hid Ho0
  replace B := Lib.hid (B.out.trans (hb.mono B.out.size))
  replace Wo0 := Lib.hid (Wo0.out.up hb (Nat.le_refl _))
  replace MGo0 := Lib.hid (MGo0.out.up hb (Nat.le_refl _))
  replace c0 := Lib.hid (c0.out.up hb (Nat.le_refl _))
  have zw14 : w13.heap.size ≤ w14.heap.size := hb.size
  clear hb
  clear c0
  go_upto_region 25 with fail
  go_wp2_with fail
  refine (eqI_same _ _ (mostL z0) _ Ho0.out.rd Wo0.out.rd).mono ?_
  rintro e w15 ⟨rfl, hb⟩
  replace B := Lib.hid (B.out.trans (hb.mono B.out.size))
  replace Wo0 := Lib.hid (Wo0.out.up hb (Nat.le_refl _))
  replace MGo0 := Lib.hid (MGo0.out.up hb (Nat.le_refl _))
  replace Ho0 := Lib.hid (Ho0.out.up hb (Nat.le_refl _))
  have zw15 : w14.heap.size ≤ w15.heap.size := hb.size
  clear hb
  go_upto_region 28 with fail
  go_wp2_with fail
  refine (heldI_o _ (mostL z0) _ _ MGo0.out.rd (by omega) (by have := mostL_cnt z0; omega)).mono ?_
  rintro e w16 ⟨rfl, hb⟩
  replace B := Lib.hid (B.out.trans (hb.mono B.out.size))
  replace Wo0 := Lib.hid (Wo0.out.up hb (Nat.le_refl _))
  replace MGo0 := Lib.hid (MGo0.out.up hb (Nat.le_refl _))
  replace Ho0 := Lib.hid (Ho0.out.up hb (Nat.le_refl _))
  have zw16 : w15.heap.size ≤ w16.heap.size := hb.size
  clear hb
  go_wp2_with fail
  go_ret
  exact ⟨rfl, B.out⟩

end Go.Proofs.Ytkfiepiipigcmaa
