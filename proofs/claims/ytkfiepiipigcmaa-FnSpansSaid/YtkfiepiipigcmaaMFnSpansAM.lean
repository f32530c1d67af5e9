/-
  FnSpans: texts joined: FspN, FspA, AppLL, Concat.
-/
import Derived.BigQuiet
import Derived.Deep.Cut
import Derived.Lib.AppendZeros
import Derived.Test.YtkfiepiipigcmaaMFnSpansAB
import Derived.Test.YtkfiepiipigcmaaMFnSpansAD
import Derived.Test.YtkfiepiipigcmaaMFnSpansAH
import Derived.Test.YtkfiepiipigcmaaMFnSpansAI
import Derived.Test.YtkfiepiipigcmaaMFnSpansAL
namespace Go.Proofs.Ytkfiepiipigcmaa
open Go.RowKit Go.Sort

theorem setL_mem {n : Nat} {S : List Nat} {x : Nat} : x ∈ setL n S ↔ x < n ∧ x ∈ S := by
  unfold setL
  rw [List.mem_filter, List.mem_range, List.contains_iff_mem]
theorem setL_step {n : Nat} {S : List Nat} {k : Nat} (h0 : 0 < k) (hk : k < (setL n S).length) : (setL n S).getD (k - 1) 0 < (setL n S).getD k 0 := by
  have := List.pairwise_iff_getElem.1 (setL_pair n S) (k - 1) k (by omega) hk (by omega)
  rw [List.getD_eq_getElem?_getD, List.getElem?_eq_getElem (by omega), List.getD_eq_getElem?_getD, List.getElem?_eq_getElem hk]
  exact this
theorem setL_in {n : Nat} {S : List Nat} {k : Nat} (hk : k < (setL n S).length) : (setL n S).getD k 0 < n := by
  rw [List.getD_eq_getElem?_getD, List.getElem?_eq_getElem hk]
  exact (setL_mem.1 (List.getElem_mem hk)).1
theorem setL_apart {n : Nat} {st en : Nat → Int} {S : List Nat} (hd : S.Nodup) (hn : ∀ x ∈ S, x < n) (ha : ApartS st en S) {i k : Nat} (hik : i < k) (hk : k < (setL n S).length) :
    ¬ (st ((setL n S).getD i 0) < en ((setL n S).getD k 0) ∧ st ((setL n S).getD k 0) < en ((setL n S).getD i 0)) := by
  have h := apart_perm (setL_perm hd hn) ha
  have := List.pairwise_iff_getElem.1 h i k (by omega) hk hik
  rw [List.getD_eq_getElem?_getD, List.getElem?_eq_getElem (by omega), List.getD_eq_getElem?_getD, List.getElem?_eq_getElem hk]
  simp only [Option.getD_some]
  omega

theorem spans_parts {ps : List SpanD} (h : areSpansB ps = true) : 1 ≤ ps.length ∧ ps.length ≤ 64 ∧ ∀ i, i < ps.length → spanB (ps.getD i P0) = true := by
  unfold areSpansB at h
  rw [Bool.and_eq_true, inB_iff, allB_iff] at h
  exact ⟨by omega, by omega, h.2⟩
theorem span_parts {p : SpanD} (h : spanB p = true) : 0 ≤ p.start ∧ p.start ≤ 100000 ∧ p.stop ≤ 100000 ∧ p.start < p.stop ∧ 0 ≤ p.gain ∧ p.gain ≤ 1000 := by
  unfold spanB at h
  simp only [Bool.and_eq_true, inB_iff, decide_eq_true_eq] at h
  omega
theorem stK_rng {ps : List SpanD} (h : areSpansB ps = true) (x : Nat) : 0 ≤ stK ps x ∧ stK ps x < toK ps x := by
  have h1 := spans_parts h
  have := span_parts (h1.2.2 (x % ps.length) (Nat.mod_lt _ (by omega)))
  unfold stK toK
  omega
theorem asc_of (key : Nat → Int) (n : Nat) : AscL key (ordL key n) n := by
  intro i j h1 h2
  by_cases e : i = j
  · subst e; exact Int.le_refl _
  · exact ordL_asc key n i j (by omega) h2
theorem ordL_getD_lt (key : Nat → Int) {n k : Nat} (hk : k < n) : (ordL key n).getD k 0 < n := by
  rw [List.getD_eq_getElem?_getD, List.getElem?_eq_getElem (by rw [ordL_len]; exact hk)]
  exact ordL_lt _ _ _ (List.getElem_mem _)
theorem ordL_onto (key : Nat → Int) {n x : Nat} (hx : x < n) : ∃ k, k < n ∧ (ordL key n).getD k 0 = x := by
  have h := (ordL_perm key n).mem_iff.2 (List.mem_range.2 hx)
  obtain ⟨k, hk, e⟩ := List.getElem_of_mem h
  rw [ordL_len] at hk
  refine ⟨k, hk, ?_⟩
  rw [List.getD_eq_getElem?_getD, List.getElem?_eq_getElem (by rw [ordL_len]; exact hk)]
  exact e

section
variable {ps : List SpanD} (h : areSpansB ps = true)
include h
theorem most_facts : (mostS ps).Nodup ∧ (∀ x ∈ mostS ps, x < ps.length) ∧ ApartS (stK ps) (toK ps) (mostS ps) ∧ 1 ≤ (mostS ps).length := by
  have h1 := spans_parts h
  have hsub := grK_sub (stK ps) (toK ps) (ordL (toK ps) ps.length) (-1) ps.length (by rw [ordL_len]; exact Nat.le_refl _)
  have hM : mostS ps = (grK (stK ps) (toK ps) (ordL (toK ps) ps.length) (-1) ps.length).1 := rfl
  rw [← hM] at hsub
  refine ⟨hsub.nodup ((List.take_sublist _ _).nodup ((ordL_perm (toK ps) ps.length).nodup_iff.2 List.nodup_range)), fun x hx => ordL_lt _ _ x (List.mem_of_mem_take (hsub.subset hx)), ?_, ?_⟩
  · exact greedy_apart (fun x => by have := stK_rng h x; omega) _
  · have := grK_pos (stK ps) (toK ps) (ordL (toK ps) ps.length) (fun x => (stK_rng h x).1) (ps.length - 1)
    rw [show ps.length - 1 + 1 = ps.length by omega] at this
    exact this
theorem most_len : (setL ps.length (mostS ps)).length = (mostS ps).length := by
  have := most_facts h
  exact (setL_perm this.1 this.2.1).length_eq.symm
omit h in
theorem bsp_apart : ApartS (stK ps) (toK ps) (bspT ps) := taken_apart (asc_of (toK ps) ps.length) _ _ (Nat.le_refl _) (Nat.le_refl _)
theorem bsp_sum : sumG (gaK ps) (setL ps.length (bspT ps)) = bspG ps := by
  rw [← sumG_perm (gaK ps) (setL_perm (bspT_nodup ps) (bspT_lt ps))]
  unfold bspG
  rw [h]
  exact taken_gain _ _ (Nat.le_refl _)
theorem most_sum : sumG (gaK ps) (setL ps.length (mostS ps)) ≤ bspG ps := by
  have hm := most_facts h
  rw [← sumG_perm (gaK ps) (setL_perm hm.1 hm.2.1)]
  unfold bspG
  rw [h]
  exact greedy_gain (asc_of (toK ps) ps.length) _ _ (Nat.le_refl _) (Nat.le_refl _)
theorem bsp_one {i : Nat} (hi : i < ps.length) : (ps.getD i P0).gain ≤ bspG ps := by
  obtain ⟨k, hk, e⟩ := ordL_onto (toK ps) hi
  have := one_gain (st := stK ps) (en := toK ps) (ga := gaK ps) (L := ordL (toK ps) ps.length) (fun x => (gaK_rng h x).1) hk
  rw [e] at this
  unfold bspG
  rw [h]
  unfold gaK at this
  rw [Nat.mod_eq_of_lt hi] at this
  exact this
/-! spans of gain 1 -/
omit h in
def evenP (ps : List SpanD) : List SpanD := ps.map fun p => ⟨p.start, p.stop, 1⟩
omit h in
theorem evenP_len (ps : List SpanD) : (evenP ps).length = ps.length := by unfold evenP; rw [List.length_map]
omit h in
theorem evenP_at {ps : List SpanD} {i : Nat} (hi : i < ps.length) : (evenP ps).getD i P0 = ⟨(ps.getD i P0).start, (ps.getD i P0).stop, 1⟩ := by
  unfold evenP
  rw [List.getD_eq_getElem?_getD, List.getElem?_map, List.getD_eq_getElem?_getD, List.getElem?_eq_getElem hi]
  rfl
theorem even_ok : areSpansB (evenP ps) = true := by
  have h1 := spans_parts h
  unfold areSpansB
  rw [Bool.and_eq_true, inB_iff, allB_iff, evenP_len]
  refine ⟨by omega, fun i hi => ?_⟩
  rw [evenP_at hi]
  have := span_parts (h1.2.2 i hi)
  unfold spanB
  simp only [Bool.and_eq_true, inB_iff, decide_eq_true_eq]
  omega
theorem even_gain : bspG (evenP ps) = ((mostS ps).length : Int) := by
  have h1 := spans_parts h
  have e1 : stK (evenP ps) = stK ps := by
    funext x
    unfold stK
    rw [evenP_len, evenP_at (Nat.mod_lt _ (by omega))]
  have e2 : toK (evenP ps) = toK ps := by
    funext x
    unfold toK
    rw [evenP_len, evenP_at (Nat.mod_lt _ (by omega))]
  have e3 : ∀ x, gaK (evenP ps) x = 1 := fun x => by
    unfold gaK
    rw [evenP_len, evenP_at (Nat.mod_lt _ (by omega))]
  unfold bspG
  rw [even_ok h, e1, e2, evenP_len]
  exact sum_ones (asc_of (toK ps) ps.length) (fun x => (stK_rng h x).1) e3 _ _ (Nat.le_refl _) (Nat.le_refl _)
/-! rooms -/
theorem rooms_len : (roomsL ps).length = ps.length := by unfold roomsL; rw [if_pos h]; exact rmO_len _ _ _ _ _
theorem room_at {i : Nat} (hi : i < ps.length) : ∃ k, k < ps.length ∧ (ordL (frK ps) ps.length).getD k 0 = i ∧ (roomsL ps).getD i 0 = (rmR (frK ps) (toK ps) (ordL (frK ps) ps.length) k : Int) := by
  obtain ⟨k, hk, e⟩ := ordL_onto (frK ps) hi
  refine ⟨k, hk, e, ?_⟩
  have := rmO_at (st := frK ps) (en := toK ps) (ordL_perm (frK ps) ps.length) hk (Nat.le_refl ps.length)
  rw [e] at this
  unfold roomsL
  rw [h]
  exact this
theorem room_rng {i : Nat} (hi : i < ps.length) : 0 ≤ (roomsL ps).getD i 0 ∧ (roomsL ps).getD i 0 < roomsN ps := by
  obtain ⟨k, hk, _, e⟩ := room_at h hi
  have := rmR_lt (frK ps) (toK ps) (ordL (frK ps) ps.length) hk
  unfold roomsN
  rw [h, e]
  simp only [if_true]
  omega
theorem rooms_cnt : 1 ≤ roomsN ps ∧ roomsN ps ≤ ps.length := by
  have h1 := spans_parts h
  have h2 := room_rng h (show 0 < ps.length by omega)
  have h3 := rmE_cnt (frK ps) (toK ps) (ordL (frK ps) ps.length) ps.length
  refine ⟨by omega, ?_⟩
  unfold roomsN
  rw [h]
  simp only [if_true]
  omega
theorem room_meet {i k : Nat} (hi : i < ps.length) (hk : k < ps.length) (hne : i ≠ k) (hr : (roomsL ps).getD i 0 = (roomsL ps).getD k 0) :
    ¬ ((ps.getD i P0).start < (ps.getD k P0).stop ∧ (ps.getD k P0).start < (ps.getD i P0).stop) := by
  obtain ⟨a, ha, ea, ra⟩ := room_at h hi
  obtain ⟨b, hb, eb, rb⟩ := room_at h hk
  rw [ra, rb] at hr
  have hr : rmR (frK ps) (toK ps) (ordL (frK ps) ps.length) a = rmR (frK ps) (toK ps) (ordL (frK ps) ps.length) b := by omega
  have hse : ∀ x, frK ps x < toK ps x := fun x => (stK_rng h x).2
  have c1 : ∀ x, x < ps.length → frK ps x = (ps.getD x P0).start := fun x hx => by unfold frK; rw [Nat.mod_eq_of_lt hx]
  have c2 : ∀ x, x < ps.length → toK ps x = (ps.getD x P0).stop := fun x hx => by unfold toK; rw [Nat.mod_eq_of_lt hx]
  rcases Nat.lt_trichotomy a b with c | c | c
  · have := rooms_apart hse c hr
    rw [ea, eb, c1 k hk, c2 i hi] at this
    omega
  · subst c
    exact absurd (ea.symm.trans eb) hne
  · have := rooms_apart hse c hr.symm
    rw [ea, eb, c1 i hi, c2 k hk] at this
    omega
omit h in
/-- How many of the first m spans hold the time at which the i-th one begins. -/
def deepC (ps : List SpanD) (i : Nat) : Nat → Nat
  | 0 => 0
  | k + 1 => deepC ps i k + if (ps.getD k P0).start ≤ (ps.getD i P0).start ∧ (ps.getD i P0).start < (ps.getD k P0).stop then 1 else 0
omit h in
theorem deepC_le (ps : List SpanD) (i : Nat) : ∀ m, deepC ps i m ≤ m
  | 0 => Nat.le_refl _
  | k + 1 => by
    have := deepC_le ps i k
    simp only [deepC]
    split <;> omega
omit h in
theorem deepC_eq {ps : List SpanD} {i : Nat} (hi : i < ps.length) : ∀ m, m ≤ ps.length → deepC ps i m = ((List.range m).filter fun k => decide (frK ps k ≤ frK ps i ∧ frK ps i < toK ps k)).length
  | 0, _ => rfl
  | k + 1, hk => by
    rw [List.range_succ, List.filter_append, List.length_append, ← deepC_eq hi k (by omega)]
    have c1 : ∀ x, x < ps.length → frK ps x = (ps.getD x P0).start := fun x hx => by unfold frK; rw [Nat.mod_eq_of_lt hx]
    have c2 : toK ps k = (ps.getD k P0).stop := by unfold toK; rw [Nat.mod_eq_of_lt (by omega)]
    simp only [deepC]
    rw [← c1 k (by omega), ← c1 i hi, ← c2]
    by_cases c : frK ps k ≤ frK ps i ∧ frK ps i < toK ps k
    · rw [if_pos c]; simp [c]
    · rw [if_neg c, List.filter_cons_of_neg (by simpa using c)]; simp
omit h in
def dpM (ps : List SpanD) : Nat → Int
  | 0 => 0
  | i + 1 => max (dpM ps i) (deepC ps i ps.length)
theorem deep_le {i : Nat} (hi : i < ps.length) : (deepC ps i ps.length : Int) ≤ roomsN ps := by
  have hrng := fun x hx => room_rng h (i := x) hx
  have hpos := (rooms_cnt h).1
  rw [deepC_eq hi ps.length (Nat.le_refl _)]
  have hn := nodup_sub (((List.range ps.length).filter fun k => decide (frK ps k ≤ frK ps i ∧ frK ps i < toK ps k)).map fun k => ((roomsL ps).getD k 0).toNat) (List.range (roomsN ps).toNat) ?_ ?_
  · rw [List.length_map, List.length_range] at hn
    omega
  · unfold List.Nodup
    rw [List.pairwise_map]
    refine List.Pairwise.imp_of_mem ?_ (List.Pairwise.filter _ List.nodup_range)
    intro a b ha hb hab e
    rw [List.mem_filter, List.mem_range, decide_eq_true_eq] at ha hb
    have r1 := hrng a ha.1
    have r2 := hrng b hb.1
    refine room_meet h ha.1 hb.1 hab (by omega) ?_
    have c1 : ∀ x, x < ps.length → frK ps x = (ps.getD x P0).start := fun x hx => by unfold frK; rw [Nat.mod_eq_of_lt hx]
    have c2 : ∀ x, x < ps.length → toK ps x = (ps.getD x P0).stop := fun x hx => by unfold toK; rw [Nat.mod_eq_of_lt hx]
    rw [← c1 a ha.1, ← c1 b hb.1, ← c2 a ha.1, ← c2 b hb.1]
    have := ha.2
    have := hb.2
    omega
  · intro x hx
    rw [List.mem_map] at hx
    obtain ⟨k, hk, rfl⟩ := hx
    rw [List.mem_filter, List.mem_range] at hk
    have := hrng k hk.1
    rw [List.mem_range]
    omega
theorem dpM_le : ∀ m, m ≤ ps.length → dpM ps m ≤ roomsN ps
  | 0, _ => by have := (rooms_cnt h).1; show (0 : Int) ≤ _; omega
  | m + 1, hm => by
    have h1 := dpM_le m (by omega)
    have h2 := deep_le h (i := m) (by omega)
    simp only [dpM]
    omega
omit h in
theorem dpM_ge (ps : List SpanD) (i : Nat) : ∀ m, i < m → (deepC ps i ps.length : Int) ≤ dpM ps m
  | 0, h => by omega
  | m + 1, h => by
    simp only [dpM]
    by_cases e : i = m
    · subst e; omega
    · have := dpM_ge ps i m (by omega)
      omega
theorem depth_is : dpM ps ps.length = roomsN ps := by
  have h1 := spans_parts h
  have hle := dpM_le h ps.length (Nat.le_refl _)
  have hd := rooms_deep (st := frK ps) (en := toK ps) (ordL_perm (frK ps) ps.length) (fun i j a b => asc_of (frK ps) ps.length i j a b) (fun x => (stK_rng h x).2) ps.length (Nat.le_refl _)
  rcases hd with e | ⟨k, hk, hd⟩
  · omega
  · have hx := ordL_getD_lt (frK ps) hk
    have h3 := dpM_ge ps ((ordL (frK ps) ps.length).getD k 0) ps.length hx
    rw [deepC_eq hx ps.length (Nat.le_refl _)] at h3
    unfold deepL at hd
    have h4 : roomsN ps = ((rmE (frK ps) (toK ps) (ordL (frK ps) ps.length) ps.length).length : Int) := by unfold roomsN; rw [h]; rfl
    omega
end

end Go.Proofs.Ytkfiepiipigcmaa

namespace Go.Proofs.Ytkfiepiipigcmaa
open Go.RowKit

/-- A list of indices of spans, ascending, of which no two meet. -/
structure ApartL (S : List Nat) (ps : List SpanD) : Prop where
  lt : ∀ k, k < S.length → S.getD k 0 < ps.length
  inc : ∀ k, 0 < k → k < S.length → S.getD (k - 1) 0 < S.getD k 0
  ap : ∀ i k, i < k → k < S.length → ¬ ((ps.getD (S.getD i 0) P0).start < (ps.getD (S.getD k 0) P0).stop ∧ (ps.getD (S.getD k 0) P0).start < (ps.getD (S.getD i 0) P0).stop)

set_option maxHeartbeats 2000000 in
set_option maxRecDepth 4000 in
theorem r8Apart_any (ua : Option Addr) (m uc : Nat) (S : List Nat) (v : Value) (ps : List SpanD) (w : World) (hl : S.length = m) (hm : m ≤ 1000) (hu : RdI w (.slice ua m uc) (idxs S)) (hp : RdP w v ps) (ha : ApartL S ps) :
    Calls Try.prog 25 #[.slice ua m uc, v] w fun e w' => e = .returned (.bool true) ∧ Below w.heap.size w w' := by
  obtain ⟨pa, pc, rfl⟩ := hp.shape
  have hlen := hp.len
  unfold maxLen at hlen
  have HU := Lib.hid hu
  have HP := Lib.hid hp
  have HA := Lib.hid ha
  have HL := Lib.hid hl
  have HIL := Lib.hid (show (idxs S).length = m by rw [idxs_len]; exact hl)
  have HLI := Lib.hid (show ∀ k, k < m → (idxs S).getD k 0 = (S.getD k 0 : Int) from fun k hk => by
    have hk2 : k < S.length := by omega
    unfold idxs
    rw [List.getD_eq_getElem?_getD, List.getElem?_map, List.getD_eq_getElem?_getD, List.getElem?_eq_getElem hk2]
    rfl)
  clear hu hp ha hl
  go_enter Try.func25, Try.ntmps25
  go_wp2_with fail
  go_loopw [5] (fun kv wr => ∃ k : Nat, kv = .int .i64 k ∧ k ≤ m ∧ Hid (Below w.heap.size w wr)) (fun kv _ => m + 1 - (intOf kv).toNat)
  case atStart => exact ⟨0, rfl, Nat.zero_le _, Lib.hid (Below.refl _ _)⟩
  case round =>
    obtain ⟨k, rfl, hk, HB⟩ := hrel
    obtain ⟨wo, rfl⟩ : ∃ wo, wo = wr := ⟨wr, rfl⟩
    by_cases hlt : k < m
    · have hltI : (k : Int) < (m : Int) := by omega
      obtain ⟨ub, uo, rfl, _, hx⟩ := (HU.out.up HB.out (Nat.le_refl _)).at (i := k) (by rw [HIL.out]; exact hlt)
      rw [HLI.out k hlt] at hx
      obtain ⟨x, hxe⟩ : ∃ x, x = S.getD k 0 := ⟨_, rfl⟩
      have hxn : x < ps.length := by rw [hxe]; exact HA.out.lt k (by rw [HL.out]; exact hlt)
      rw [← hxe] at hx
      have HX := Lib.hid hxe.symm
      have x1 : decide ((x : Int) < 0) = false := decide_eq_false (by omega)
      have x2 : decide ((ps.length : Int) ≤ (x : Int)) = false := decide_eq_false (by omega)
      have x2n : decide (ps.length ≤ x) = false := decide_eq_false (by omega)
      clear hxe
      by_cases hk0 : 0 < k
      · have hk0I : decide ((0 : Int) < (k : Int)) = true := decide_eq_true (by omega)
        have hk0N : decide (0 < k) = true := decide_eq_true (by omega)
        obtain ⟨p, hp⟩ : ∃ p, k = p + 1 := ⟨k - 1, by omega⟩
        have hw1 : IntKind.i64.wrap ((k : Int) - 1) = (p : Int) := by rw [IntWalk.i64_in _ (by omega)]; omega
        obtain ⟨ub2, uo2, ee, _, hy⟩ := (HU.out.up HB.out (Nat.le_refl _)).at (i := p) (by rw [HIL.out]; omega)
        simp only [Option.some.injEq, Addr.mk.injEq, and_true] at ee
        obtain ⟨rfl, rfl⟩ := ee
        rw [HLI.out p (by omega)] at hy
        have hpm : (p : Int) < (m : Int) := by omega
        have hin := HA.out.inc k hk0 (by rw [HL.out]; exact hlt)
        rw [show k - 1 = p by omega, HX.out] at hin
        obtain ⟨y, hye⟩ : ∃ y, y = S.getD p 0 := ⟨_, rfl⟩
        rw [← hye] at hy hin
        have x3 : decide ((x : Int) ≤ (y : Int)) = false := decide_eq_false (by omega)
        have x3n : decide (x ≤ y) = false := decide_eq_false (by omega)
        clear hye hp
        go_wp2_with fail
        go_quiet (fail)
        clear x3 x3n hy hin
        generalize hwt : wo.drewN _ = wt
        have HBt := Lib.hid (show Below w.heap.size w wt by subst hwt; exact below_drewN HB.out _)
        clear hwt x1 x2 x2n hk0I hk0N hx
        go_wp2_with fail
        go_loopw [6] (fun iv wr => ∃ i : Nat, iv = .int .i64 i ∧ i ≤ k ∧ Hid (Below w.heap.size w wr)) (fun iv _ => k + 1 - (intOf iv).toNat)
        case atStart => exact ⟨0, rfl, Nat.zero_le _, HBt⟩
        case round =>
          obtain ⟨i, rfl, hi, HBi⟩ := hrel
          obtain ⟨wi, rfl⟩ : ∃ wi, wi = wr := ⟨wr, rfl⟩
          have hzi := HBi.out.size
          by_cases hik : i < k
          · have hikI : (i : Int) < (k : Int) := by omega
            have him : (i : Int) < (m : Int) := by omega
            obtain ⟨ub2, uo2, ee, _, hy⟩ := (HU.out.up HBi.out (Nat.le_refl _)).at (i := i) (by rw [HIL.out]; omega)
            simp only [Option.some.injEq, Addr.mk.injEq, and_true] at ee
            obtain ⟨rfl, rfl⟩ := ee
            obtain ⟨ub2, uo2, ee, _, hx⟩ := (HU.out.up HBi.out (Nat.le_refl _)).at (i := k) (by rw [HIL.out]; omega)
            simp only [Option.some.injEq, Addr.mk.injEq, and_true] at ee
            obtain ⟨rfl, rfl⟩ := ee
            rw [HLI.out i (by omega)] at hy
            rw [HLI.out k (by omega), HX.out] at hx
            have hap := HA.out.ap i k hik (by rw [HL.out]; omega)
            rw [HX.out] at hap
            obtain ⟨y, hye⟩ : ∃ y, y = S.getD i 0 := ⟨_, rfl⟩
            have hyn : y < ps.length := by rw [hye]; exact HA.out.lt i (by rw [HL.out]; omega)
            rw [← hye] at hy hap
            have hyI : (y : Int) < (ps.length : Int) := by omega
            have hxI : (x : Int) < (ps.length : Int) := by omega
            obtain ⟨pb, po, rfl, _, c0, c1, c2⟩ := (HP.out.up HBi.out (Nat.le_refl _)).at hyn
            obtain ⟨pb2, po2, ee, _, d0, d1, d2⟩ := (HP.out.up HBi.out (Nat.le_refl _)).at hxn
            simp only [Option.some.injEq, Addr.mk.injEq, and_true] at ee
            obtain ⟨rfl, rfl⟩ := ee
            obtain ⟨⟨f1, t1, g1⟩, hs1⟩ : ∃ q, q = ps.getD y P0 := ⟨_, rfl⟩
            obtain ⟨⟨f2, t2, g2⟩, hs2⟩ : ∃ q, q = ps.getD x P0 := ⟨_, rfl⟩
            rw [← hs1] at hap c0 c1 c2
            rw [← hs2] at hap d0 d1 d2
            simp only at hap c0 c1 c2 d0 d1 d2
            clear hs1 hs2 hye
            go_upto_region 10 with fail
            refine wp_at fun W1 hW1 => ?_
            have HB1 := Lib.hid (show Below wi.heap.size wi W1 by subst hW1; (repeat' first | exact Below.refl _ _ | assumption | refine Below.alloc ?_ ?_ _ | refine Below.setCell ?_ ?_ _ | refine Below.drew ?_ | (simp; done) | (simp; omega)))
            have HK1 := Lib.hid (show Blk W1 wi.heap.size 41 #[.int .i64 f1, .int .i64 t1, .int .i64 g1] by subst hW1; exact Blk.new _ _ _)
            have hx := held_of HB1.out hx (Nat.le_refl _)
            have d0 := held_of HB1.out d0 (Nat.le_refl _)
            have d1 := held_of HB1.out d1 (Nat.le_refl _)
            have d2 := held_of HB1.out d2 (Nat.le_refl _)
            clear hW1
            obtain ⟨b1, hb1⟩ : ∃ b, b = wi.heap.size := ⟨_, rfl⟩
            rw [← hb1] at HK1 ⊢
            clear hb1 c0 c1 c2 hy
            go_upto_region 11 with fail
            refine wp_at fun W2 hW2 => ?_
            have HB2 := Lib.hid (show Below W1.heap.size W1 W2 by subst hW2; (repeat' first | exact Below.refl _ _ | assumption | refine Below.alloc ?_ ?_ _ | refine Below.setCell ?_ ?_ _ | refine Below.drew ?_ | (simp; done) | (simp; omega)))
            have HK2 := Lib.hid (show Blk W2 W1.heap.size 41 #[.int .i64 f2, .int .i64 t2, .int .i64 g2] by subst hW2; exact Blk.new _ _ _)
            have HK3 := Lib.hid (HK1.out.below HB2.out HK1.out.lt)
            clear hW2 hx d0 d1 d2
            obtain ⟨b2, hb2⟩ : ∃ b, b = W1.heap.size := ⟨_, rfl⟩
            rw [← hb2] at HK2 ⊢
            clear hb2
            have c0 : W2.cell? ⟨b1, 0, none⟩ = some (.int .i64 f1) := HK3.out.cell 0 rfl
            have c1 : W2.cell? ⟨b1, 1, none⟩ = some (.int .i64 t1) := HK3.out.cell 1 rfl
            have d0 : W2.cell? ⟨b2, 0, none⟩ = some (.int .i64 f2) := HK2.out.cell 0 rfl
            have d1 : W2.cell? ⟨b2, 1, none⟩ = some (.int .i64 t2) := HK2.out.cell 1 rfl
            have HB4 := Lib.hid (HBi.out.trans ((HB1.out.trans (HB2.out.mono HB1.out.size)).mono hzi))
            by_cases e1 : f1 < t2
            · have e2 : ¬ f2 < t1 := fun h => hap ⟨e1, h⟩
              have q1 : decide (f1 < t2) = true := decide_eq_true e1
              have q2 : decide (f2 < t1) = false := decide_eq_false e2
              clear hap e1 e2
              go_wp2_with fail
              go_roundw
              case rel => exact ⟨i + 1, by go_num, by omega, HB4⟩
              case measure => simp [intOf]; omega
            · have q1 : decide (f1 < t2) = false := decide_eq_false e1
              clear hap e1
              go_wp2_with fail
              go_roundw
              case rel => exact ⟨i + 1, by go_num, by omega, HB4⟩
              case measure => simp [intOf]; omega
          · obtain rfl : i = k := by omega
            go_wp2_with fail
            go_roundw
            case rel => exact ⟨i + 1, by go_num, by omega, HBi⟩
            case measure => simp [intOf]; omega
      · have hk0I : decide ((0 : Int) < (k : Int)) = false := decide_eq_false (by omega)
        have hk0N : decide (0 < k) = false := decide_eq_false (by omega)
        go_wp2_with fail
        go_quiet (fail)
        generalize hwt : wo.drewN _ = wt
        have HBt := Lib.hid (show Below w.heap.size w wt by subst hwt; exact below_drewN HB.out _)
        clear hwt x1 x2 x2n hk0I hk0N hx
        go_wp2_with fail
        go_loopw [6] (fun iv wr => ∃ i : Nat, iv = .int .i64 i ∧ i ≤ k ∧ Hid (Below w.heap.size w wr)) (fun iv _ => k + 1 - (intOf iv).toNat)
        case atStart => exact ⟨0, rfl, Nat.zero_le _, HBt⟩
        case round =>
          obtain ⟨i, rfl, hi, HBi⟩ := hrel
          obtain ⟨wi, rfl⟩ : ∃ wi, wi = wr := ⟨wr, rfl⟩
          have hzi := HBi.out.size
          by_cases hik : i < k
          · exfalso; omega
          · obtain rfl : i = k := by omega
            go_wp2_with fail
            go_roundw
            case rel => exact ⟨i + 1, by go_num, by omega, HBi⟩
            case measure => simp [intOf]; omega
    · obtain rfl : k = m := by omega
      go_wp2_with fail
      go_ret
      exact ⟨rfl, HB.out⟩

end Go.Proofs.Ytkfiepiipigcmaa

namespace Go.Proofs.Ytkfiepiipigcmaa
open Go.RowKit

/-- A new row of one list. -/
theorem slc_list (w : World) (u : Value) (b : Nat) (hb : b = w.heap.size) : Slc (w.alloc (.cells #[u] 24)) (.slice (some ⟨b, 0, none⟩) 1 1) [u] := by
  subst hb
  exact slc_of_owns (World.ownsRow_lit (base := w.heap.size) (e := 24) (size := 1) w #[u] 1 (Nat.le_refl _) (by simp [maxLen]) rfl)

/-- The lists of one's own, and one more. -/
theorem OwnEach.snoc {lo hi l2 h2 : Nat} {w w' : World} {v u : Value} {n : Nat} {vs : List Value} {zss : List (List Int)} {z : List Int} (hv : w.ownsRow lo 24 1 v n vs) (he : OwnEach lo hi w vs zss) (hu : OwnI l2 h2 w u z) (hhi : hi ≤ l2) (hl : lo ≤ l2) (h2w : h2 ≤ w.heap.size) (hiw : hi ≤ w.heap.size) (hg : w.grownBy w' v.ownBlock) :
    OwnEach lo w'.heap.size w' (vs ++ [u]) (zss ++ [z]) := by
  have hz := hg.size
  have keep : ∀ {l h : Nat} {u : Value} {z : List Int}, OwnI l h w u z → OwnI l h w' u z := by
    intro l h u z ho
    refine ⟨owns_kept (S := fun k => v.ownBlock = some k) ho.1 ⟨hg.os, hg.tape, hg.output, hg.size, fun k hk hs => hg.block k hk fun e => hs e.symm⟩ (fun g h1 h2 => owns_ne ho.1 hv (by decide) h1 h2), ho.2⟩
  have at' : ∀ (i : Nat) u1 z1, (vs ++ [u])[i]? = some u1 → (zss ++ [z])[i]? = some z1 → (i < zss.length ∧ vs[i]? = some u1 ∧ zss[i]? = some z1) ∨ (i = zss.length ∧ u1 = u ∧ z1 = z) := by
    intro i u1 z1 h1 h2
    by_cases hik : i < zss.length
    · rw [List.getElem?_append_left (by rw [he.1]; exact hik)] at h1
      rw [List.getElem?_append_left hik] at h2
      exact .inl ⟨hik, h1, h2⟩
    · have hik' : i = zss.length := by
        have := (List.getElem?_eq_some_iff.1 h2).1
        simp at this
        omega
      subst hik'
      rw [List.getElem?_append_right (by rw [he.1]; exact Nat.le_refl _), he.1] at h1
      rw [List.getElem?_append_right (Nat.le_refl _)] at h2
      simp at h1 h2
      exact .inr ⟨rfl, h1.symm, h2.symm⟩
  refine ⟨by simp [he.1], ?_, ?_⟩
  · intro i u1 z1 h1 h2'
    rcases at' i u1 z1 h1 h2' with ⟨_, q1, q2⟩ | ⟨_, rfl, rfl⟩
    · exact (keep (he.2.1 i u1 z1 q1 q2)).wide (Nat.le_refl _) (by omega)
    · exact (keep hu).wide hl (by omega)
  · intro i j u1 u2 g hij h1 h2' hg1 hg2
    have zat : ∀ (i : Nat) u1, (vs ++ [u])[i]? = some u1 → ∃ z1, (zss ++ [z])[i]? = some z1 := by
      intro i u1 h
      have := (List.getElem?_eq_some_iff.1 h).1
      simp [he.1] at this
      exact ⟨(zss ++ [z])[i]'(by simp; omega), List.getElem?_eq_getElem (by simp; omega)⟩
    obtain ⟨z1, q1⟩ := zat i u1 h1
    obtain ⟨z2, q2⟩ := zat j u2 h2'
    rcases at' i u1 z1 h1 q1 with ⟨a1, a2, a3⟩ | ⟨a1, rfl, rfl⟩ <;> rcases at' j u2 z2 h2' q2 with ⟨c1, c2, c3⟩ | ⟨c1, rfl, rfl⟩
    · exact he.2.2 i j u1 u2 g hij a2 c2 hg1 hg2
    · have := (he.2.1 i u1 z1 a2 a3).2 g hg1
      have := (owns_lt hu.1 hg2).1
      omega
    · have := (he.2.1 j u2 z2 c2 c3).2 g hg2
      have := (owns_lt hu.1 hg1).1
      omega
    · omega

end Go.Proofs.Ytkfiepiipigcmaa

namespace Go.Proofs.Ytkfiepiipigcmaa
open Go.RowKit

/-- The head of what has just been made of zeros, at length 0. -/
theorem owns_head {w : World} {e : TypeId} (cs : Array Value) (cap : Nat) (hc : cs.size = cap) (hm : cap ≤ maxLen) : (w.drew.alloc (.cells cs e)).ownsRow w.heap.size e 1 (.slice (some ⟨w.heap.size, 0, none⟩) 0 cap) 0 [] := by
  refine ⟨rfl, .inr ⟨w.heap.size, cap, cs, rfl, Nat.le_refl _, ?_, Nat.zero_le _, hm, by simpa using hc, by simp⟩⟩
  simpa using heap_alloc_new w.drew (.cells cs e)

def upTo2 {α : Type} (a b : List α) : Nat → List α
  | 0 => []
  | 1 => a
  | _ => a ++ b

theorem owns_beside {w w' : World} {b1 b2 e1 e2 n m : Nat} {v u : Value} {vs us : List Value} (ho : w.ownsRow b1 e1 1 v n vs) (hv : w.ownsRow b2 e2 1 u m us) (hne : e1 ≠ e2) (hg : w.grownBy w' u.ownBlock) : w'.ownsRow b1 e1 1 v n vs :=
  owns_kept (S := fun k => u.ownBlock = some k) ho ⟨hg.os, hg.tape, hg.output, hg.size, fun k hk hs => hg.block k hk fun e => hs e.symm⟩ (fun _ h1 h2 => owns_ne ho hv hne h1 h2)

end Go.Proofs.Ytkfiepiipigcmaa
