/-
  FnDesk: texts joined: DrwM, Pop, Dom, Rising, DomO, TightM, Digits, Src, R8, SameNL, SameJ, SameRw, SameD, SameDD, ValidD.
-/
import Derived.Laws.BitsAllLaws
import Derived.Deep.Cut
import Derived.Test.YtgkbbpajkbkgnaaGreatDoorMFnDeskAD
import Derived.Test.YtgkbbpajkbkgnaaGreatDoorMFnDeskAK
import Derived.Test.YtgkbbpajkbkgnaaGreatDoorMFnDeskAL
import Derived.Test.YtgkbbpajkbkgnaaGreatDoorMFnDeskAM
set_option linter.unusedVariables false
set_option linter.unusedSimpArgs false
namespace Go.Proofs.YtgkbbpajkbkgnaaGreatDoor
open Go.RowKit
def hD (d : Int) : Nat := Ieee.single.nearest (decide (d < 0)) d.natAbs (-1)
def uptoD (lo : Int) (n : Nat) : List Int := (List.range n).map fun i : Nat => lo + (i : Int)
theorem mem_uptoD {lo : Int} {n : Nat} {d : Int} (h0 : lo ≤ d) (h1 : d < lo + n) : d ∈ uptoD lo n := List.mem_map.2 ⟨(d - lo).toNat, List.mem_range.2 (by omega), by omega⟩
theorem tD_is : (uptoD (-3) 20).all (fun d => Ieee.single.div (floatOfInt .f32 d) 1073741824 == some (hD d)) = true := by decide +kernel
theorem tD_fin : (uptoD (-3) 20).all (fun d => fin32 (hD d) && decide (hD d < 4294967296)) = true := by decide +kernel
theorem tD_least : (uptoD 0 17).all (fun d => least (hD d)) = true := by decide +kernel
theorem tD_abs : (uptoD (-3) 11).all (fun d => abs32 (hD d) == hD (d.natAbs : Nat)) = true := by decide +kernel
theorem tD_mx : (List.range 8).all (fun i => (List.range 8).all fun j => mxF (hD (i : Nat)) (hD (j : Nat)) == hD ((max i j : Nat))) = true := by decide +kernel
theorem tD_div : (List.range 8).all (fun m => decide (m = 0) || (uptoD (-3) 11).all fun d => fin32 (divV (hD d) (hD (m : Nat)))) = true := by decide +kernel
theorem tD_divb : (List.range 8).all (fun m => decide (m = 0) || (uptoD 0 17).all fun d => least (divV (hD d) (hD (m : Nat)))) = true := by decide +kernel
theorem dD_is {d : Int} (h0 : -3 ≤ d) (h1 : d ≤ 16) : Ieee.single.div (floatOfInt .f32 d) 1073741824 = some (hD d) := by
  have := List.all_eq_true.1 tD_is d (mem_uptoD h0 (by omega))
  rwa [beq_iff_eq] at this
theorem dD_fin {d : Int} (h0 : -3 ≤ d) (h1 : d ≤ 16) : fin32 (hD d) = true ∧ hD d < 4294967296 := by
  have := List.all_eq_true.1 tD_fin d (mem_uptoD h0 (by omega))
  rwa [Bool.and_eq_true, decide_eq_true_iff] at this
theorem dD_least {d : Int} (h0 : 0 ≤ d) (h1 : d ≤ 16) : least (hD d) = true := List.all_eq_true.1 tD_least d (mem_uptoD h0 (by omega))
theorem dD_abs {d : Int} (h0 : -3 ≤ d) (h1 : d ≤ 7) : abs32 (hD d) = hD (d.natAbs : Nat) := by
  have := List.all_eq_true.1 tD_abs d (mem_uptoD h0 (by omega))
  rwa [beq_iff_eq] at this
theorem dD_mx {i j : Nat} (hi : i ≤ 7) (hj : j ≤ 7) : mxF (hD (i : Nat)) (hD (j : Nat)) = hD ((max i j : Nat)) := by
  have := List.all_eq_true.1 (List.all_eq_true.1 tD_mx i (List.mem_range.2 (by omega))) j (List.mem_range.2 (by omega))
  rwa [beq_iff_eq] at this
theorem dD_div {m : Nat} {d : Int} (h1 : 1 ≤ m) (h7 : m ≤ 7) (h0 : -3 ≤ d) (hd : d ≤ 7) : fin32 (divV (hD d) (hD (m : Nat))) = true := by
  have := List.all_eq_true.1 tD_div m (List.mem_range.2 (by omega))
  rw [decide_eq_false (by omega), Bool.false_or] at this
  exact List.all_eq_true.1 this d (mem_uptoD h0 (by omega))
theorem dD_divb {m : Nat} {d : Int} (h1 : 1 ≤ m) (h7 : m ≤ 7) (h0 : 0 ≤ d) (hd : d ≤ 16) : least (divV (hD d) (hD (m : Nat))) = true := by
  have := List.all_eq_true.1 tD_divb m (List.mem_range.2 (by omega))
  rw [decide_eq_false (by omega), Bool.false_or] at this
  exact List.all_eq_true.1 this d (mem_uptoD h0 (by omega))
theorem hD_zero : hD 0 = 0 := by decide +kernel
theorem gt_zeroD : gtF 0 0 = false := by decide +kernel
def Halves (lo hi : Int) (xs : List Nat) : Prop := ∀ x ∈ xs, ∃ d, lo ≤ d ∧ d ≤ hi ∧ x = hD d
theorem Halves.at {lo hi : Int} {xs : List Nat} (h : Halves lo hi xs) (h0 : lo ≤ 0) (h1 : 0 ≤ hi) (j : Nat) : ∃ d, lo ≤ d ∧ d ≤ hi ∧ xs.getD j 0 = hD d := by
  rcases Nat.lt_or_ge j xs.length with hj | hj
  · rw [List.getD_eq_getElem?_getD, List.getElem?_eq_getElem hj]
    exact h _ (List.getElem_mem hj)
  · exact ⟨0, h0, h1, by rw [List.getD_eq_getElem?_getD, List.getElem?_eq_none hj, hD_zero]; rfl⟩
theorem Halves.fin {lo hi : Int} {xs : List Nat} (h : Halves lo hi xs) (h0 : -3 ≤ lo) (h1 : hi ≤ 16) : allFin xs = true ∧ BitsF xs := by
  constructor
  · unfold allFin
    rw [List.all_eq_true]
    intro x hx
    obtain ⟨d, a, b, rfl⟩ := h x hx
    exact (dD_fin (by omega) (by omega)).1
  · intro x hx
    obtain ⟨d, a, b, rfl⟩ := h x hx
    exact (dD_fin (by omega) (by omega)).2
theorem Halves.snoc {lo hi : Int} {xs : List Nat} (h : Halves lo hi xs) {d : Int} (h0 : lo ≤ d) (h1 : d ≤ hi) : Halves lo hi (xs ++ [hD d]) := by
  intro x hx
  rcases List.mem_append.1 hx with hx | hx
  · exact h x hx
  · exact ⟨d, h0, h1, List.mem_singleton.1 hx⟩
theorem Halves.nil {lo hi : Int} : Halves lo hi [] := fun x hx => by cases hx
structure HalfR (r : RowsD) : Prop where
  v1 : 1 ≤ r.vars
  v4 : r.vars ≤ 4
  b1 : 1 ≤ r.bnds.length
  b4 : r.bnds.length ≤ 4
  gl : (r.gains.length : Int) = r.vars
  nl : (r.nums.length : Int) = r.vars * r.bnds.length
  hn : Halves (-3) 7 r.nums
  hb : Halves 0 16 r.bnds
  hg : Halves (-3) 7 r.gains
theorem half_valid {r : RowsD} (h : HalfR r) : validR r = true ∧ BitsR r := by
  obtain ⟨n1, n2⟩ := h.hn.fin (by omega) (by omega)
  obtain ⟨g1, g2⟩ := h.hg.fin (by omega) (by omega)
  obtain ⟨_, b2⟩ := h.hb.fin (by omega) (by omega)
  have := h.v4; have := h.b4; have := h.v1; have := h.b1
  refine ⟨validR_true ⟨h.v1, by omega, h.b1, by omega, h.gl, h.nl, n1, g1, fun i hi => ?_⟩, n2, b2, g2⟩
  obtain ⟨d, p, q, e⟩ := h.hb.at (by omega) (by omega) i
  rw [e]
  exact dD_least p q
theorem most_half {xs : List Nat} (h : ∀ j, ∃ d, -3 ≤ d ∧ d ≤ 7 ∧ xs.getD j 0 = hD d) : ∀ k, ∃ m : Nat, m ≤ 7 ∧ mostK xs k = hD (m : Nat)
  | 0 => ⟨0, by omega, hD_zero.symm⟩
  | k + 1 => by
    obtain ⟨m, hm, e⟩ := most_half h k
    obtain ⟨d, a, b, e2⟩ := h k
    refine ⟨max m d.natAbs, by omega, ?_⟩
    show mxF (mostK xs k) (abs32 (xs.getD k 0)) = _
    rw [e, e2, dD_abs a b, dD_mx hm (by omega)]
theorem most_row {r : RowsD} (h : HalfR r) (i : Nat) : ∃ m : Nat, m ≤ 7 ∧ mostR r i = hD (m : Nat) ∧ (posR r i = true → 1 ≤ m) := by
  have hx : ∀ j, ∃ d, -3 ≤ d ∧ d ≤ 7 ∧ (rowO r i).getD j 0 = hD d := by
    intro j
    rcases Nat.lt_or_ge j r.gains.length with hj | hj
    · rw [rowO_at hj]
      exact h.hn.at (by omega) (by omega) _
    · refine ⟨0, by omega, by omega, ?_⟩
      rw [hD_zero, List.getD_eq_getElem?_getD, List.getElem?_eq_none]
      · rfl
      · unfold rowO
        rw [List.length_take]
        omega
  obtain ⟨m, hm, e⟩ := most_half hx r.gains.length
  refine ⟨m, hm, e, fun hp => ?_⟩
  rcases Nat.eq_zero_or_pos m with h0 | h0
  · exfalso
    subst h0
    unfold posR mostR at hp
    rw [e, show hD ((0 : Nat) : Int) = 0 from hD_zero, gt_zeroD] at hp
    cases hp
  · exact h0
theorem half_scale {r : RowsD} (h : HalfR r) : scaleOk r = true := by
  unfold scaleOk
  rw [(half_valid h).1, Bool.true_and]
  have := h.v4; have := h.b4; have := h.v1; have := h.b1
  have hl : (scR r).nums.length = r.nums.length := stN_len r _
  have hlb : (scR r).bnds.length = r.bnds.length := stB_len r _
  refine validR_true ⟨h.v1, by show r.vars ≤ 8; omega, by rw [hlb]; exact h.b1, by rw [hlb]; omega, h.gl, by rw [hl, hlb]; exact h.nl, ?_, (h.hg.fin (by omega) (by omega)).1, fun i hi => ?_⟩
  · show (stN r r.nums.length).all fin32 = true
    rw [List.all_eq_true]
    intro x hx
    unfold stN at hx
    obtain ⟨j, hj, rfl⟩ := List.mem_map.1 hx
    obtain ⟨d, a, b, e⟩ := h.hn.at (by omega) (by omega) j
    split
    · unfold scN
      split
      · rename_i hp
        obtain ⟨m, hm, em, hpos⟩ := most_row h (j / r.gains.length)
        rw [e, em]
        exact dD_div (hpos hp) hm a b
      · rw [e]; exact (dD_fin (by omega) (by omega)).1
    · rw [e]; exact (dD_fin (by omega) (by omega)).1
  · show least ((stB r r.bnds.length).getD i 0) = true
    rw [hlb] at hi
    unfold stB
    rw [List.getD_eq_getElem?_getD, List.getElem?_map, List.getElem?_range hi]
    show least (if i < r.bnds.length then scB r i else r.bnds.getD i 0) = true
    rw [if_pos hi]
    obtain ⟨d, a, b, e⟩ := h.hb.at (by omega) (by omega) i
    unfold scB
    split
    · rename_i hp
      obtain ⟨m, hm, em, hpos⟩ := most_row h i
      rw [e, em]
      exact dD_divb (hpos hp) hm a b
    · rw [e]; exact dD_least a b
end Go.Proofs.YtgkbbpajkbkgnaaGreatDoor

namespace Go.Proofs.YtgkbbpajkbkgnaaGreatDoor
def s1 (b : Nat) : Nat := ((b >>> 1) &&& 85) + (b &&& 85)
def s2 (b : Nat) : Nat := ((b >>> 2) &&& 51) + (b &&& 51)
def t2 (b : Nat) : Nat := s2 (s1 b)
end Go.Proofs.YtgkbbpajkbkgnaaGreatDoor

namespace Go.Proofs.YtgkbbpajkbkgnaaGreatDoor
open Go.RowKit
end Go.Proofs.YtgkbbpajkbkgnaaGreatDoor

namespace Go.Proofs.YtgkbbpajkbkgnaaGreatDoor
open Go.RowKit
end Go.Proofs.YtgkbbpajkbkgnaaGreatDoor

namespace Go.Proofs.YtgkbbpajkbkgnaaGreatDoor
open Go.RowKit
end Go.Proofs.YtgkbbpajkbkgnaaGreatDoor

namespace Go.Proofs.YtgkbbpajkbkgnaaGreatDoor
end Go.Proofs.YtgkbbpajkbkgnaaGreatDoor

namespace Go.Proofs.YtgkbbpajkbkgnaaGreatDoor
open Go.RowKit
theorem and64 (a b : Nat) (ha : a < 18446744073709551616) (hb : b < 18446744073709551616) : bits .and .u64 (a : Int) (b : Int) = ((a &&& b : Nat) : Int) := u64_and_nat a b ha hb
end Go.Proofs.YtgkbbpajkbkgnaaGreatDoor

namespace Go.Proofs.YtgkbbpajkbkgnaaGreatDoor
open Go.RowKit Go.ChangeShapes
def SrcAt (w : World) (sb : Nat) (v : Value) (c : Nat) : Prop := ∃ a S : Nat, a ≤ c ∧ S < 18446744073709551616 ∧ Blk w sb 151 #[v, .int .i64 a, .int .u64 S]
theorem SrcAt.below {w w' : World} {sb : Nat} {v : Value} {c B : Nat} (h : SrcAt w sb v c) (hb : Below B w w') (hB : sb < B) : SrcAt w' sb v c := by
  obtain ⟨a, S, h1, h2, h3⟩ := h; exact ⟨a, S, h1, h2, h3.below hb hB⟩
theorem SrcAt.lt {w : World} {sb : Nat} {v : Value} {c : Nat} (h : SrcAt w sb v c) : sb < w.heap.size := by obtain ⟨a, S, h1, h2, h3⟩ := h; exact h3.lt
theorem SrcAt.mono {w : World} {sb : Nat} {v : Value} {c d : Nat} (h : SrcAt w sb v c) (hc : c ≤ d) : SrcAt w sb v d := by obtain ⟨a, S, h1, h2, h3⟩ := h; exact ⟨a, S, by omega, h2, h3⟩
theorem SrcAt.kept {S : Nat → Prop} {w w' : World} {sb : Nat} {v : Value} {c : Nat} (h : SrcAt w sb v c) (hk : Kept S w w') (hs : ¬ S sb) : SrcAt w' sb v c := by obtain ⟨a, S, h1, h2, h3⟩ := h; exact ⟨a, S, h1, h2, h3.kept hk hs⟩
def DrawE (sb : Nat) (v : Value) (c : Nat) (n : Int) (w : World) (e : Ending) (w' : World) : Prop :=
  ∃ x : Int, 0 ≤ x ∧ x < n ∧ e = .returned (.int .i64 x) ∧ SrcAt w' sb v c ∧ Kept (· = sb) w w'
theorem shr40 (S : Nat) (h : S < 18446744073709551616) : ∃ x : Nat, x < 256 ∧ bits .and .u64 ((S : Int) / 1099511627776) 255 = (x : Int) := by
  refine ⟨(S >>> 40) &&& 255, ?_, ?_⟩
  · rw [show (255 : Nat) = 2 ^ 8 - 1 from rfl, Nat.and_two_pow_sub_one_eq_mod]; omega
  · have a1 : ((S : Int) / (1099511627776 : Int)) = ((S >>> 40 : Nat) : Int) := by rw [Nat.shiftRight_eq_div_pow]; rfl
    have l1 : S >>> 40 < 18446744073709551616 := Nat.lt_of_le_of_lt (Nat.shiftRight_le S 40) h
    rw [a1, show (255 : Int) = ((255 : Nat) : Int) from rfl, and64 _ _ l1 (by decide)]
theorem src_set {w : World} {sb : Nat} {v : Value} {a a' S : Nat} {e : Int} (h : Blk w sb 151 #[v, .int .i64 a, .int .u64 S]) :
    ∃ T : Nat, T < 18446744073709551616 ∧ Blk ((w.setCell ⟨sb, 1, none⟩ (.int .i64 a')).setCell ⟨sb, 2, none⟩ (.int .u64 (IntKind.u64.wrap e))) sb 151 #[v, .int .i64 a', .int .u64 T] := by
  have hw := bounds_u64 (wf_wrap .u64 e)
  refine ⟨(IntKind.u64.wrap e).toNat, by omega, ?_⟩
  have h1 := (h.set 1 (.int .i64 a')).set 2 (.int .u64 (IntKind.u64.wrap e))
  have e1 : (((IntKind.u64.wrap e).toNat : Nat) : Int) = IntKind.u64.wrap e := by omega
  rw [e1]
  simpa using h1
set_option maxHeartbeats 1000000 in
set_option maxRecDepth 4000 in
theorem next_any (W0 : World) (v : Value) (xs : List Int) (hR : RdB W0 v xs) (hw : WfB xs) (sb c : Nat) (w : World) (hb : Below W0.heap.size W0 w) (h : SrcAt w sb v c) (hc : c ≤ 1000000) :
    Calls Tryz.prog 134 #[.pointer (some ⟨sb, 0, none⟩)] w (DrawE sb v (c + 1) 256 w) := by
  obtain ⟨a, S, ha, hS, hk⟩ := h
  obtain ⟨ad, cap, rfl⟩ := hR.shape
  have hlen := hR.len
  unfold maxLen at hlen
  have d0 : w.cell? ⟨sb, 0, none⟩ = some (.slice ad xs.length cap) := hk.cell 0 rfl
  have d1 : w.cell? ⟨sb, 1, none⟩ = some (.int .i64 a) := hk.cell 1 rfl
  have d2 : w.cell? ⟨sb, 2, none⟩ = some (.int .u64 S) := hk.cell 2 rfl
  have f1 := hk.free 1
  have f2 := hk.free 2
  have HK := Lib.hid hk
  have HR := Lib.hid (hR.up hb (Nat.le_refl _))
  have HS := Lib.hid hS
  clear hR hk hb hS
  by_cases hl : a < xs.length
  · obtain ⟨b, off, rfl, _, hcell⟩ := HR.out.at hl
    obtain ⟨hx0, hx1⟩ := hw.at hl
    obtain ⟨x, hx⟩ : ∃ x, x = xs.getD a 0 := ⟨_, rfl⟩
    rw [← hx] at hcell hx0 hx1
    clear hx hw
    have k1 : (a : Int) < (xs.length : Int) := by omega
    have k2 : (a : Int) + 1 ≤ (xs.length : Int) := by omega
    go_enter Tryz.func134, Tryz.ntmps134
    go_wp2_with fail
    go_quiet (fail)
    go_wp2_with fail
    go_quiet (fail)
    go_upto_region 6 with fail
    refine wp_at fun W hW => ?_
    have HW : Hid (∃ T : Nat, T < 18446744073709551616 ∧ Blk W sb 151 #[.slice (some ⟨b, off, none⟩) xs.length cap, .int .i64 ((a + 1 : Nat) : Int), .int .u64 T]) := by subst hW; exact src_set (w := w.drewN _) HK.out
    have HKP := Lib.hid (show Kept (· = sb) w W by subst hW; exact (((Kept.refl (· = sb) w).drewN _).setCell (.inr rfl) _).setCell (.inr rfl) _)
    clear hW d0 d1 d2 f1 f2 hcell
    obtain ⟨T, hT, hB⟩ := HW.out
    have d0 : W.cell? ⟨sb, 0, none⟩ = some (.slice (some ⟨b, off, none⟩) xs.length cap) := hB.cell 0 rfl
    have d1 : W.cell? ⟨sb, 1, none⟩ = some (.int .i64 ((a + 1 : Nat) : Int)) := hB.cell 1 rfl
    have HT := Lib.hid hT
    have HB := Lib.hid hB
    have k3 : ((a + 1 : Nat) : Int) ≤ (xs.length : Int) := by omega
    clear hT hB
    go_quiet (fail)
    go_wp2_with fail
    go_ret
    exact ⟨x, hx0, by omega, rfl, ⟨a + 1, T, by omega, HT.out, HB.out⟩, HKP.out.drewN _⟩
  · have k1 : ¬ (a : Int) < (xs.length : Int) := by omega
    have k2 : (xs.length : Int) ≤ (a : Int) := by omega
    clear hl
    go_enter Tryz.func134, Tryz.ntmps134
    go_wp2_with fail
    go_quiet (fail)
    go_upto_region 6 with fail
    refine wp_at fun W hW => ?_
    have HW : Hid (∃ T : Nat, T < 18446744073709551616 ∧ Blk W sb 151 #[.slice ad xs.length cap, .int .i64 ((a + 1 : Nat) : Int), .int .u64 T]) := by subst hW; exact src_set (w := w.drewN _) HK.out
    have HKP := Lib.hid (show Kept (· = sb) w W by subst hW; exact (((Kept.refl (· = sb) w).drewN _).setCell (.inr rfl) _).setCell (.inr rfl) _)
    clear hW d0 d1 d2 f1 f2
    obtain ⟨T, hT, hB⟩ := HW.out
    have d0 : W.cell? ⟨sb, 0, none⟩ = some (.slice ad xs.length cap) := hB.cell 0 rfl
    have d1 : W.cell? ⟨sb, 1, none⟩ = some (.int .i64 ((a + 1 : Nat) : Int)) := hB.cell 1 rfl
    have d2 : W.cell? ⟨sb, 2, none⟩ = some (.int .u64 T) := hB.cell 2 rfl
    obtain ⟨x, hx1, hx2⟩ := shr40 T hT
    have HT := Lib.hid hT
    have HB := Lib.hid hB
    have k3 : (xs.length : Int) < ((a + 1 : Nat) : Int) := by omega
    clear hT hB
    go_quiet (fail)
    go_wp2_with fail
    go_ret
    exact ⟨x, by omega, by omega, rfl, ⟨a + 1, T, by omega, HT.out, HB.out⟩, HKP.out.drewN _⟩
set_option maxHeartbeats 1000000 in
theorem pick_any (W0 : World) (v : Value) (xs : List Int) (hR : RdB W0 v xs) (hw : WfB xs) (sb c : Nat) (w : World) (hsb : W0.heap.size ≤ sb) (hb : Below W0.heap.size W0 w) (h : SrcAt w sb v c) (hc : c ≤ 999990) (n : Int) (h1 : 1 ≤ n) (h2 : n ≤ 65536) :
    Calls Tryz.prog 81 #[.pointer (some ⟨sb, 0, none⟩), .int .i64 n] w (DrawE sb v (c + 2) n w) := by
  have HR := Lib.hid hR
  have HW := Lib.hid hw
  have HB := Lib.hid hb
  have HS := Lib.hid h
  clear hR hw hb h
  by_cases hn : n ≤ 1
  · go_enter Tryz.func81, Tryz.ntmps81
    go_wp2_with fail
    go_ret
    exact ⟨0, by omega, by omega, rfl, HS.out.mono (by omega), Kept.refl _ _⟩
  by_cases hm : n ≤ 200
  · go_enter Tryz.func81, Tryz.ntmps81
    go_wp2_with fail
    refine (next_any W0 v xs HR.out HW.out sb c w HB.out HS.out (by omega)).mono ?_
    rintro e w1 ⟨x, hx0, hx1, rfl, hs, hk⟩
    have HS1 := Lib.hid hs
    have HK1 := Lib.hid hk
    clear hs hk
    go_wp2_with fail
    go_ret
    exact ⟨x % n, Int.emod_nonneg _ (by omega), Int.emod_lt_of_pos _ (by omega), rfl, HS1.out.mono (by omega), HK1.out⟩
  · go_enter Tryz.func81, Tryz.ntmps81
    go_wp2_with fail
    refine (next_any W0 v xs HR.out HW.out sb c w HB.out HS.out (by omega)).mono ?_
    rintro e w1 ⟨x, hx0, hx1, rfl, hs, hk⟩
    have HS1 := Lib.hid hs
    have HK1 := Lib.hid hk
    have HB1 := Lib.hid (HB.out.trans (hk.toBelow HB.out.size (by intro k h1 h2; omega)))
    clear hs hk
    go_wp2_with fail
    refine (next_any W0 v xs HR.out HW.out sb (c + 1) w1 HB1.out HS1.out (by omega)).mono ?_
    rintro e w2 ⟨y, hy0, hy1, rfl, hs, hk⟩
    have HS2 := Lib.hid hs
    have HK2 := Lib.hid hk
    clear hs hk
    go_wp2_with fail
    go_ret
    exact ⟨(x * 256 + y) % n, Int.emod_nonneg _ (by omega), Int.emod_lt_of_pos _ (by omega), rfl, HS2.out.mono (by omega), HK1.out.trans HK2.out⟩
set_option maxHeartbeats 400000 in
theorem l00From_any (v : Value) (xs : List Int) (w : World) (hR : RdB w v xs) :
    Calls Tryz.prog 44 #[v] w fun e w' => e = .returned (.pointer (some ⟨w.heap.size, 0, none⟩)) ∧ SrcAt w' w.heap.size v 0 ∧ Below w.heap.size w w' := by
  obtain ⟨ad, cap, rfl⟩ := hR.shape
  clear hR
  go_enter Tryz.func44, Tryz.ntmps44
  go_wp2_with fail
  go_ret
  exact ⟨rfl, ⟨0, 0, Nat.le_refl _, by decide, Blk.new _ _ _⟩, by (repeat' first | exact Below.refl _ _ | assumption | refine Below.alloc ?_ ?_ _ | refine Below.setCell ?_ ?_ _ | refine Below.drew ?_ | (simp; done) | (simp; omega))⟩
end Go.Proofs.YtgkbbpajkbkgnaaGreatDoor

namespace Go.Proofs.YtgkbbpajkbkgnaaGreatDoor
open Go.RowKit
def isLong8 (a b : List Int) : Bool := decide (48 < (a.length : Int)) || decide (48 < (b.length : Int))
theorem r8Long_any (v v' : Value) (xs ys : List Int) (w : World) (h : RdB w v xs) (h' : RdB w v' ys) :
    Calls Tryz.prog 9 #[v, v'] w fun e w' => e = .returned (.bool (isLong8 xs ys)) ∧ w = w' := by
  obtain ⟨a, c, rfl⟩ := h.shape
  obtain ⟨a', c', rfl⟩ := h'.shape
  clear h h'
  by_cases h1 : 48 < (xs.length : Int)
  · go_enter Tryz.func9, Tryz.ntmps9
    go_wp2_with fail
    go_ret
    exact ⟨by simp [isLong8, h1], rfl⟩
  · go_enter Tryz.func9, Tryz.ntmps9
    go_wp2_with fail
    go_ret
    exact ⟨by congr 2; simp [isLong8, h1]; omega, rfl⟩
end Go.Proofs.YtgkbbpajkbkgnaaGreatDoor

namespace Go.Proofs.YtgkbbpajkbkgnaaGreatDoor
open Go.RowKit
def sameF : List Nat → List Nat → Bool := eqBy sameX
set_option maxHeartbeats 1000000 in
theorem sameNumbers_any (v v' : Value) (xs ys : List Nat) (w : World) (h : RdF w v xs) (h' : RdF w v' ys) :
    Calls Tryz.prog 133 #[v, v'] w fun e w' => e = .returned (.bool (sameF xs ys)) ∧ ∃ n, w' = w.drewN n := by
  obtain ⟨a, c, rfl⟩ := h.shape
  obtain ⟨a', c', rfl⟩ := h'.shape
  have hm := h.len
  simp only [maxLen] at hm
  have H1 := Lib.hid h
  have H2 := Lib.hid h'
  clear h h'
  by_cases hl : xs.length = ys.length
  · have hne : ((xs.length : Int) != (ys.length : Int)) = false := by simp [hl]
    have HL := Lib.hid hl
    clear hl
    go_enter Tryz.func133, Tryz.ntmps133
    go_wp2_with fail
    go_loopw [13] (fun i wr => ∃ k : Nat, i = .int .i64 k ∧ k ≤ xs.length ∧ Hid (∀ j, j < k → sameX (xs.getD j 0) (ys.getD j 0) = true) ∧ Hid (∃ n, wr = w.drewN n)) (fun i _ => xs.length - (intOf i).toNat)
    case atStart => exact ⟨0, rfl, Nat.zero_le _, fun j hj => by omega, Lib.hid ⟨0, rfl⟩⟩
    case round =>
      obtain ⟨k, rfl, hk, hall, hdr⟩ := hrel
      by_cases hlt : k < xs.length
      · have hlt2 : k < ys.length := by have := HL.out; omega
        obtain ⟨b, off, rfl, hb, hc⟩ := (show RdF wr _ xs by obtain ⟨n, rfl⟩ := hdr.out; exact H1.out.drewN n).at hlt
        obtain ⟨b', off', rfl, hb', hc'⟩ := (show RdF wr _ ys by obtain ⟨n, rfl⟩ := hdr.out; exact H2.out.drewN n).at hlt2
        obtain ⟨x, hx⟩ : ∃ x, x = xs.getD k 0 := ⟨_, rfl⟩
        obtain ⟨y, hy⟩ : ∃ y, y = ys.getD k 0 := ⟨_, rfl⟩
        rw [← hx] at hc
        rw [← hy] at hc'
        have HX := Lib.hid hx
        have HY := Lib.hid hy
        clear hx hy
        have hlt2' : (k : Int) < ys.length := by omega
        obtain ⟨q, hq⟩ : ∃ q, sameX x y = q := ⟨_, rfl⟩
        have HQ := Lib.hid hq
        clear hq
        cases q
        · go_wp2_with fail
          go_quiet ((go_at_call 178; exact quiet_same (SameNumber_b _ x y _ HQ.out)))
          go_wp2_with fail
          go_ret
          exact ⟨by rw [show sameF xs ys = false from eqBy_ne sameX 0 xs ys k hlt hlt2 (by rw [← HX.out, ← HY.out]; exact HQ.out)]; rfl, by obtain ⟨n, rfl⟩ := hdr.out; exact drewN_ex ⟨n, rfl⟩ _⟩
        · go_wp2_with fail
          go_quiet ((go_at_call 178; exact quiet_same (SameNumber_b _ x y _ HQ.out)))
          go_wp2_with fail
          go_roundw
          case rel =>
            refine ⟨k + 1, by go_num, by omega, fun j hj => ?_, Lib.hid (by obtain ⟨n, rfl⟩ := hdr.out; exact drewN_ex ⟨n, rfl⟩ _)⟩
            by_cases hjk : j < k
            · exact hall.out j hjk
            · obtain rfl : j = k := by omega
              rw [← HX.out, ← HY.out]; exact HQ.out
          case measure => simp [intOf]; omega
      · obtain rfl : k = xs.length := by omega
        go_wp2_with fail
        go_ret
        exact ⟨by rw [show sameF xs ys = true from eqBy_all sameX 0 xs ys HL.out hall.out]; rfl, hdr.out⟩
  · have hne : ((xs.length : Int) != (ys.length : Int)) = true := by simp; omega
    have HNO := Lib.hid (show sameF xs ys = false from eqBy_len sameX xs ys hl)
    go_enter Tryz.func133, Tryz.ntmps133
    go_wp2_with fail
    go_ret
    exact ⟨by rw [HNO.out]; rfl, 0, rfl⟩
end Go.Proofs.YtgkbbpajkbkgnaaGreatDoor

namespace Go.Proofs.YtgkbbpajkbkgnaaGreatDoor
open Go.RowKit
def sameJ (x y : JobD) : Bool := (x.long == y.long) && ((x.due == y.due) && ((x.weight == y.weight) && (x.ready == y.ready)))
def sameJs : List JobD → List JobD → Bool := eqBy sameJ
theorem jobs_five (x y : JobD) : ((x.long == y.long) = true ∧ (x.due == y.due) = true ∧ (x.weight == y.weight) = true ∧ (x.ready == y.ready) = true ∧ sameJ x y = true) ∨ ((x.long == y.long) = false ∧ sameJ x y = false) ∨ ((x.long == y.long) = true ∧ (x.due == y.due) = false ∧ sameJ x y = false) ∨ ((x.long == y.long) = true ∧ (x.due == y.due) = true ∧ (x.weight == y.weight) = false ∧ sameJ x y = false) ∨ ((x.long == y.long) = true ∧ (x.due == y.due) = true ∧ (x.weight == y.weight) = true ∧ (x.ready == y.ready) = false ∧ sameJ x y = false) := by
  unfold sameJ
  cases (x.long == y.long) <;> cases (x.due == y.due) <;> cases (x.weight == y.weight) <;> cases (x.ready == y.ready) <;> simp
theorem RdJ.drewN' {w : World} {v : Value} {js : List JobD} (h : RdJ w v js) (n : Nat) : RdJ (w.drewN n) v js := h.up (below_drewN (Below.refl w.heap.size w) n) (Nat.le_refl _)
set_option maxHeartbeats 2000000 in
set_option maxRecDepth 4000 in
theorem equalJ_any (v v' : Value) (xs ys : List JobD) (w : World) (h : RdJ w v xs) (h' : RdJ w v' ys) :
    Calls Tryz.prog 80 #[v, v'] w fun e w' => e = .returned (.bool (sameJs xs ys)) ∧ ∃ n, w' = w.drewN n := by
  obtain ⟨a, c, rfl⟩ := h.shape
  obtain ⟨a', c', rfl⟩ := h'.shape
  have hm := h.len
  simp only [maxLen] at hm
  have H1 := Lib.hid h
  have H2 := Lib.hid h'
  clear h h'
  by_cases hl : xs.length = ys.length
  · have hne : ((xs.length : Int) != (ys.length : Int)) = false := by simp [hl]
    have HL := Lib.hid hl
    clear hl
    go_enter Tryz.func80, Tryz.ntmps80
    go_wp2_with fail
    go_loopw [13] (fun i wr => ∃ k : Nat, i = .int .i64 k ∧ k ≤ xs.length ∧ Hid (∀ j, j < k → sameJ (xs.getD j J0) (ys.getD j J0) = true) ∧ Hid (∃ n, wr = w.drewN n)) (fun i _ => xs.length - (intOf i).toNat)
    case atStart => exact ⟨0, rfl, Nat.zero_le _, fun j hj => by omega, Lib.hid ⟨0, rfl⟩⟩
    case round =>
      obtain ⟨k, rfl, hk, hall, hdr⟩ := hrel
      by_cases hlt : k < xs.length
      · have hlt2 : k < ys.length := by have := HL.out; omega
        obtain ⟨b, off, rfl, hb, c0, c1, c2, c3⟩ := (show RdJ wr _ xs by obtain ⟨n, rfl⟩ := hdr.out; exact H1.out.drewN' n).at hlt
        obtain ⟨b', off', rfl, hb', e0, e1, e2, e3⟩ := (show RdJ wr _ ys by obtain ⟨n, rfl⟩ := hdr.out; exact H2.out.drewN' n).at hlt2
        obtain ⟨x, hx⟩ : ∃ x, x = xs.getD k J0 := ⟨_, rfl⟩
        obtain ⟨y, hy⟩ : ∃ y, y = ys.getD k J0 := ⟨_, rfl⟩
        rw [← hx] at c0 c1 c2 c3
        rw [← hy] at e0 e1 e2 e3
        have HX := Lib.hid hx
        have HY := Lib.hid hy
        clear hx hy
        have hlt2' : (k : Int) < ys.length := by omega
        rcases jobs_five x y with ⟨h0, h1, h2, h3, HS⟩ | ⟨h0, HS⟩ | ⟨h0, h1, HS⟩ | ⟨h0, h1, h2, HS⟩ | ⟨h0, h1, h2, h3, HS⟩
        · have HQ := Lib.hid HS
          clear HS
          go_wp2_with fail
          go_quiet (fail)
          go_wp2_with fail
          go_roundw
          case rel =>
            refine ⟨k + 1, by go_num, by omega, fun j hj => ?_, Lib.hid (by obtain ⟨n, rfl⟩ := hdr.out; exact drewN_ex ⟨n, rfl⟩ _)⟩
            by_cases hjk : j < k
            · exact hall.out j hjk
            · obtain rfl : j = k := by omega
              rw [← HX.out, ← HY.out]; exact HQ.out
          case measure => simp [intOf]; omega
        · have HQ := Lib.hid HS
          clear HS
          go_wp2_with fail
          go_quiet (fail)
          go_wp2_with fail
          go_ret
          exact ⟨by rw [show sameJs xs ys = false from eqBy_ne sameJ J0 xs ys k hlt hlt2 (by rw [← HX.out, ← HY.out]; exact HQ.out)]; rfl, by obtain ⟨n, rfl⟩ := hdr.out; exact drewN_ex ⟨n, rfl⟩ _⟩
        · have HQ := Lib.hid HS
          clear HS
          go_wp2_with fail
          go_quiet (fail)
          go_wp2_with fail
          go_ret
          exact ⟨by rw [show sameJs xs ys = false from eqBy_ne sameJ J0 xs ys k hlt hlt2 (by rw [← HX.out, ← HY.out]; exact HQ.out)]; rfl, by obtain ⟨n, rfl⟩ := hdr.out; exact drewN_ex ⟨n, rfl⟩ _⟩
        · have HQ := Lib.hid HS
          clear HS
          go_wp2_with fail
          go_quiet (fail)
          go_wp2_with fail
          go_ret
          exact ⟨by rw [show sameJs xs ys = false from eqBy_ne sameJ J0 xs ys k hlt hlt2 (by rw [← HX.out, ← HY.out]; exact HQ.out)]; rfl, by obtain ⟨n, rfl⟩ := hdr.out; exact drewN_ex ⟨n, rfl⟩ _⟩
        · have HQ := Lib.hid HS
          clear HS
          go_wp2_with fail
          go_quiet (fail)
          go_wp2_with fail
          go_ret
          exact ⟨by rw [show sameJs xs ys = false from eqBy_ne sameJ J0 xs ys k hlt hlt2 (by rw [← HX.out, ← HY.out]; exact HQ.out)]; rfl, by obtain ⟨n, rfl⟩ := hdr.out; exact drewN_ex ⟨n, rfl⟩ _⟩
      · obtain rfl : k = xs.length := by omega
        go_wp2_with fail
        go_ret
        exact ⟨by rw [show sameJs xs ys = true from eqBy_all sameJ J0 xs ys HL.out hall.out]; rfl, hdr.out⟩
  · have hne : ((xs.length : Int) != (ys.length : Int)) = true := by simp; omega
    have HNO := Lib.hid (show sameJs xs ys = false from eqBy_len sameJ xs ys hl)
    go_enter Tryz.func80, Tryz.ntmps80
    go_wp2_with fail
    go_ret
    exact ⟨by rw [HNO.out]; rfl, 0, rfl⟩
end Go.Proofs.YtgkbbpajkbkgnaaGreatDoor

namespace Go.Proofs.YtgkbbpajkbkgnaaGreatDoor
open Go.RowKit
def sameR (r s : RowsD) : Bool := (r.vars == s.vars) && (sameF r.nums s.nums && (sameF r.bnds s.bnds && sameF r.gains s.gains))
end Go.Proofs.YtgkbbpajkbkgnaaGreatDoor

namespace Go.Proofs.YtgkbbpajkbkgnaaGreatDoor
open Go.RowKit
def sameD (d e : DeskD) : Bool := sameR d.rows e.rows && (decide (d.sizes = e.sizes) && (sameJs d.jobs e.jobs && decide (d.ways = e.ways)))
theorem sameNumbers_b (q : Bool) (v v' : Value) (xs ys : List Nat) (w : World) (h : RdF w v xs) (h' : RdF w v' ys) (hq : sameF xs ys = q) :
    Calls Tryz.prog 133 #[v, v'] w fun e w' => e = .returned (.bool q) ∧ Below w.heap.size w w' := by
  subst hq
  refine (sameNumbers_any v v' xs ys w h h').mono ?_
  rintro e w' ⟨rfl, n, rfl⟩
  exact ⟨rfl, below_drewN (Below.refl _ _) n⟩
theorem equalI_b (q : Bool) (v v' : Value) (xs ys : List Int) (w : World) (h : RdI w v xs) (h' : RdI w v' ys) (hq : decide (xs = ys) = q) :
    Calls Tryz.prog 79 #[v, v'] w fun e w' => e = .returned (.bool q) ∧ Below w.heap.size w w' := by
  subst hq
  refine (slicesEqual_rd v v' xs ys w h h').mono ?_
  rintro e w' ⟨rfl, n, rfl⟩
  exact ⟨rfl, below_drewN (Below.refl _ _) n⟩
theorem equalJ_b (q : Bool) (v v' : Value) (xs ys : List JobD) (w : World) (h : RdJ w v xs) (h' : RdJ w v' ys) (hq : sameJs xs ys = q) :
    Calls Tryz.prog 80 #[v, v'] w fun e w' => e = .returned (.bool q) ∧ Below w.heap.size w w' := by
  subst hq
  refine (equalJ_any v v' xs ys w h h').mono ?_
  rintro e w' ⟨rfl, n, rfl⟩
  exact ⟨rfl, below_drewN (Below.refl _ _) n⟩
set_option maxHeartbeats 4000000 in
set_option maxRecDepth 4000 in
theorem implSameRows_any (v v' : Value) (r s : RowsD) (w : World) (h : RdR w v r) (h' : RdR w v' s) :
    Calls Tryz.prog 78 #[v, v'] w fun e w' => e = .returned (.bool (sameR r s)) ∧ Below w.heap.size w w' := by
  obtain ⟨a1, c1, a2, c2, a3, c3, rfl⟩ := h.shape
  obtain ⟨b1, e1, b2, e2, b3, e3, rfl⟩ := h'.shape
  obtain ⟨f1, f2, f3⟩ := h.parts
  obtain ⟨g1, g2, g3⟩ := h'.parts
  have P1 := Lib.hid f1
  have P2 := Lib.hid f2
  have P3 := Lib.hid f3
  have Q1 := Lib.hid g1
  have Q2 := Lib.hid g2
  have Q3 := Lib.hid g3
  obtain ⟨k1, hk1⟩ : ∃ k, sameF r.nums s.nums = k := ⟨_, rfl⟩
  obtain ⟨k2, hk2⟩ : ∃ k, sameF r.bnds s.bnds = k := ⟨_, rfl⟩
  obtain ⟨k3, hk3⟩ : ∃ k, sameF r.gains s.gains = k := ⟨_, rfl⟩
  have K1 := Lib.hid hk1
  have K2 := Lib.hid hk2
  have K3 := Lib.hid hk3
  have HS := Lib.hid (show sameR r s = ((r.vars == s.vars) && (k1 && (k2 && k3))) by unfold sameR; rw [hk1, hk2, hk3])
  clear h h' f1 f2 f3 g1 g2 g3 hk1 hk2 hk3
  cases hv : (r.vars == s.vars)
  · have HN := Lib.hid (show sameR r s = false by rw [HS.out, hv]; rfl)
    go_enter Tryz.func78, Tryz.ntmps78
    go_wp2_with fail
    go_ret
    refine ⟨by rw [HN.out]; rfl, ?_⟩
    (repeat' first | exact Below.refl _ _ | assumption | refine Below.alloc ?_ ?_ _ | refine Below.setCell ?_ ?_ _ | refine Below.drew ?_ | (simp; done) | (simp; omega))
  go_enter Tryz.func78, Tryz.ntmps78
  go_wp2_with fail
  refine Calls.at fun W hW => ?_
  have HB := Lib.hid (show Below w.heap.size w W by subst hW; (repeat' first | exact Below.refl _ _ | assumption | refine Below.alloc ?_ ?_ _ | refine Below.setCell ?_ ?_ _ | refine Below.drew ?_ | (simp; done) | (simp; omega)))
  have HK := Lib.hid (show Blk W w.heap.size 26 #[.int .i64 r.vars, .slice a1 r.nums.length c1, .slice a2 r.bnds.length c2, .slice a3 r.gains.length c3] by subst hW; exact (Blk.new _ _ _).alloc _)
  have HM := Lib.hid (show Blk W (w.heap.size + 1) 26 #[.int .i64 s.vars, .slice b1 s.nums.length e1, .slice b2 s.bnds.length e2, .slice b3 s.gains.length e3] by subst hW; simpa using Blk.new (w.alloc (.cells #[.int .i64 r.vars, .slice a1 r.nums.length c1, .slice a2 r.bnds.length c2, .slice a3 r.gains.length c3] 26)) 26 #[.int .i64 s.vars, .slice b1 s.nums.length e1, .slice b2 s.bnds.length e2, .slice b3 s.gains.length e3])
  clear hW
  refine (sameNumbers_b _ _ _ r.nums s.nums W (P1.out.up HB.out (Nat.le_refl _)) (Q1.out.up HB.out (Nat.le_refl _)) K1.out).mono ?_
  rintro e w1 ⟨rfl, hb1⟩
  have HB1 := Lib.hid (HB.out.trans (hb1.mono HB.out.size))
  have HK1 := Lib.hid (HK.out.below hb1 HK.out.lt)
  have HM1 := Lib.hid (HM.out.below hb1 HM.out.lt)
  clear hb1
  cases k1
  · have HN := Lib.hid (show sameR r s = false by rw [HS.out, hv]; rfl)
    go_wp2_with fail
    go_ret
    exact ⟨by rw [HN.out]; rfl, HB1.out⟩
  have x2 : w1.cell? ⟨w.heap.size, 2, none⟩ = some (.slice a2 r.bnds.length c2) := HK1.out.cell 2 rfl
  have y2 : w1.cell? ⟨w.heap.size + 1, 2, none⟩ = some (.slice b2 s.bnds.length e2) := HM1.out.cell 2 rfl
  go_wp2_with fail
  refine (sameNumbers_b _ _ _ r.bnds s.bnds w1 (P2.out.up HB1.out (Nat.le_refl _)) (Q2.out.up HB1.out (Nat.le_refl _)) K2.out).mono ?_
  rintro e w2 ⟨rfl, hb2⟩
  have HB2 := Lib.hid (HB1.out.trans (hb2.mono HB1.out.size))
  have HK2 := Lib.hid (HK1.out.below hb2 HK1.out.lt)
  have HM2 := Lib.hid (HM1.out.below hb2 HM1.out.lt)
  clear hb2 x2 y2
  cases k2
  · have HN := Lib.hid (show sameR r s = false by rw [HS.out, hv]; rfl)
    go_wp2_with fail
    go_ret
    exact ⟨by rw [HN.out]; rfl, HB2.out⟩
  have HN := Lib.hid (show sameR r s = k3 by rw [HS.out, hv]; rfl)
  have x3 : w2.cell? ⟨w.heap.size, 3, none⟩ = some (.slice a3 r.gains.length c3) := HK2.out.cell 3 rfl
  have y3 : w2.cell? ⟨w.heap.size + 1, 3, none⟩ = some (.slice b3 s.gains.length e3) := HM2.out.cell 3 rfl
  go_wp2_with fail
  refine (sameNumbers_b _ _ _ r.gains s.gains w2 (P3.out.up HB2.out (Nat.le_refl _)) (Q3.out.up HB2.out (Nat.le_refl _)) K3.out).mono ?_
  rintro e w3 ⟨rfl, hb3⟩
  have HB3 := Lib.hid (HB2.out.trans (hb3.mono HB2.out.size))
  clear hb3 x3 y3
  go_wp2_with fail
  go_ret
  exact ⟨by rw [HN.out]; rfl, HB3.out⟩
end Go.Proofs.YtgkbbpajkbkgnaaGreatDoor

namespace Go.Proofs.YtgkbbpajkbkgnaaGreatDoor
open Go.RowKit
theorem implSameRows_b (q : Bool) (v v' : Value) (r s : RowsD) (w : World) (h : RdR w v r) (h' : RdR w v' s) (hq : sameR r s = q) :
    Calls Tryz.prog 78 #[v, v'] w fun e w' => e = .returned (.bool q) ∧ Below w.heap.size w w' := by
  subst hq
  exact implSameRows_any v v' r s w h h'
set_option maxHeartbeats 4000000 in
set_option maxRecDepth 4000 in
theorem implSameDesk_any (v v' : Value) (x y : DeskD) (w : World) (h : RdD w v x) (h' : RdD w v' y) :
    Calls Tryz.prog 27 #[v, v'] w fun e w' => e = .returned (.bool (sameD x y)) ∧ Below w.heap.size w w' := by
  obtain ⟨a1, c1, a2, c2, a3, c3, a4, c4, a5, c5, a6, c6, rfl⟩ := h.shape
  obtain ⟨b1, e1, b2, e2, b3, e3, b4, e4, b5, e5, b6, e6, rfl⟩ := h'.shape
  obtain ⟨f1, f2, f3, f4⟩ := h.parts
  obtain ⟨g1, g2, g3, g4⟩ := h'.parts
  have hmj := f3.len
  simp only [maxLen] at hmj
  have P1 := Lib.hid f1
  have P2 := Lib.hid f2
  have P3 := Lib.hid f3
  have P4 := Lib.hid f4
  have Q1 := Lib.hid g1
  have Q2 := Lib.hid g2
  have Q3 := Lib.hid g3
  have Q4 := Lib.hid g4
  obtain ⟨k1, hk1⟩ : ∃ k, sameR x.rows y.rows = k := ⟨_, rfl⟩
  obtain ⟨k2, hk2⟩ : ∃ k, decide (x.sizes = y.sizes) = k := ⟨_, rfl⟩
  obtain ⟨k3, hk3⟩ : ∃ k, sameJs x.jobs y.jobs = k := ⟨_, rfl⟩
  obtain ⟨k4, hk4⟩ : ∃ k, decide (x.ways = y.ways) = k := ⟨_, rfl⟩
  have K1 := Lib.hid hk1
  have K2 := Lib.hid hk2
  have K3 := Lib.hid hk3
  have K4 := Lib.hid hk4
  have HS := Lib.hid (show sameD x y = (k1 && (k2 && (k3 && k4))) by unfold sameD; rw [hk1, hk2, hk3, hk4])
  clear h h' f1 f2 f3 f4 g1 g2 g3 g4 hk1 hk2 hk3 hk4
  go_enter Tryz.func27, Tryz.ntmps27
  go_wp2_with fail
  refine Calls.at fun W hW => ?_
  have HB0 := Lib.hid (show Below w.heap.size w W by subst hW; (repeat' first | exact Below.refl _ _ | assumption | refine Below.alloc ?_ ?_ _ | refine Below.setCell ?_ ?_ _ | refine Below.drew ?_ | (simp; done) | (simp; omega)))
  have HK0 := Lib.hid (show Blk W w.heap.size 30 #[.int .i64 x.rows.vars, .slice a1 x.rows.nums.length c1, .slice a2 x.rows.bnds.length c2, .slice a3 x.rows.gains.length c3, .slice a4 x.sizes.length c4, .slice a5 x.jobs.length c5, .slice a6 x.ways.length c6] by subst hW; exact (Blk.new _ _ _).alloc _)
  have HM0 := Lib.hid (show Blk W (w.heap.size + 1) 30 #[.int .i64 y.rows.vars, .slice b1 y.rows.nums.length e1, .slice b2 y.rows.bnds.length e2, .slice b3 y.rows.gains.length e3, .slice b4 y.sizes.length e4, .slice b5 y.jobs.length e5, .slice b6 y.ways.length e6] by subst hW; simpa using Blk.new (w.alloc (.cells #[.int .i64 x.rows.vars, .slice a1 x.rows.nums.length c1, .slice a2 x.rows.bnds.length c2, .slice a3 x.rows.gains.length c3, .slice a4 x.sizes.length c4, .slice a5 x.jobs.length c5, .slice a6 x.ways.length c6] 30)) 30 #[.int .i64 y.rows.vars, .slice b1 y.rows.nums.length e1, .slice b2 y.rows.bnds.length e2, .slice b3 y.rows.gains.length e3, .slice b4 y.sizes.length e4, .slice b5 y.jobs.length e5, .slice b6 y.ways.length e6])
  clear hW
  refine (implSameRows_b _ _ _ x.rows y.rows W (P1.out.up HB0.out (Nat.le_refl _)) (Q1.out.up HB0.out (Nat.le_refl _)) K1.out).mono ?_
  rintro e w1 ⟨rfl, hb1⟩
  have HB1 := Lib.hid (HB0.out.trans (hb1.mono HB0.out.size))
  have HK1 := Lib.hid (HK0.out.below hb1 HK0.out.lt)
  have HM1 := Lib.hid (HM0.out.below hb1 HM0.out.lt)
  clear hb1
  cases k1
  · have HN := Lib.hid (show sameD x y = false by rw [HS.out]; simp)
    go_wp2_with fail
    go_ret
    exact ⟨by rw [HN.out]; rfl, HB1.out⟩
  have x2 : w1.cell? ⟨w.heap.size, 4, none⟩ = some (.slice a4 x.sizes.length c4) := HK1.out.cell 4 rfl
  have y2 : w1.cell? ⟨w.heap.size + 1, 4, none⟩ = some (.slice b4 y.sizes.length e4) := HM1.out.cell 4 rfl
  go_wp2_with fail
  refine (equalI_b _ _ _ x.sizes y.sizes w1 (P2.out.up HB1.out (Nat.le_refl _)) (Q2.out.up HB1.out (Nat.le_refl _)) K2.out).mono ?_
  rintro e w2 ⟨rfl, hb2⟩
  have HB2 := Lib.hid (HB1.out.trans (hb2.mono HB1.out.size))
  have HK2 := Lib.hid (HK1.out.below hb2 HK1.out.lt)
  have HM2 := Lib.hid (HM1.out.below hb2 HM1.out.lt)
  clear hb2 x2 y2
  cases k2
  · have HN := Lib.hid (show sameD x y = false by rw [HS.out]; simp)
    go_wp2_with fail
    go_ret
    exact ⟨by rw [HN.out]; rfl, HB2.out⟩
  have x3 : w2.cell? ⟨w.heap.size, 5, none⟩ = some (.slice a5 x.jobs.length c5) := HK2.out.cell 5 rfl
  have y3 : w2.cell? ⟨w.heap.size + 1, 5, none⟩ = some (.slice b5 y.jobs.length e5) := HM2.out.cell 5 rfl
  go_wp2_with fail
  refine (equalJ_b _ _ _ x.jobs y.jobs w2 (P3.out.up HB2.out (Nat.le_refl _)) (Q3.out.up HB2.out (Nat.le_refl _)) K3.out).mono ?_
  rintro e w3 ⟨rfl, hb3⟩
  have HB3 := Lib.hid (HB2.out.trans (hb3.mono HB2.out.size))
  have HK3 := Lib.hid (HK2.out.below hb3 HK2.out.lt)
  have HM3 := Lib.hid (HM2.out.below hb3 HM2.out.lt)
  clear hb3 x3 y3
  cases k3
  · have HN := Lib.hid (show sameD x y = false by rw [HS.out]; simp)
    go_wp2_with fail
    go_ret
    exact ⟨by rw [HN.out]; rfl, HB3.out⟩
  have x4 : w3.cell? ⟨w.heap.size, 6, none⟩ = some (.slice a6 x.ways.length c6) := HK3.out.cell 6 rfl
  have y4 : w3.cell? ⟨w.heap.size + 1, 6, none⟩ = some (.slice b6 y.ways.length e6) := HM3.out.cell 6 rfl
  go_wp2_with fail
  refine (equalI_b _ _ _ x.ways y.ways w3 (P4.out.up HB3.out (Nat.le_refl _)) (Q4.out.up HB3.out (Nat.le_refl _)) K4.out).mono ?_
  rintro e w4 ⟨rfl, hb4⟩
  have HB4 := Lib.hid (HB3.out.trans (hb4.mono HB3.out.size))
  have HK4 := Lib.hid (HK3.out.below hb4 HK3.out.lt)
  have HM4 := Lib.hid (HM3.out.below hb4 HM3.out.lt)
  clear hb4 x4 y4
  have HN := Lib.hid (show sameD x y = k4 by rw [HS.out]; simp)
  go_wp2_with fail
  go_ret
  exact ⟨by rw [HN.out]; rfl, HB4.out⟩
end Go.Proofs.YtgkbbpajkbkgnaaGreatDoor

namespace Go.Proofs.YtgkbbpajkbkgnaaGreatDoor
open Go.RowKit
def jobB (j : JobD) : Bool := inB 1 1000 j.long && (inB 0 100000 j.due && (inB 0 100000 j.ready && inB 0 1000 j.weight))
def areJobsB (js : List JobD) : Bool := inB 1 12 js.length && allB js.length (fun i => jobB (js.getD i J0))
set_option maxHeartbeats 2000000 in
set_option maxRecDepth 4000 in
theorem AreJobs_any (v : Value) (js : List JobD) (w : World) (h : RdJ w v js) :
    Calls Tryz.prog 51 #[v] w fun e w' => e = .returned (.bool (areJobsB js)) ∧ Below w.heap.size w w' := by
  obtain ⟨a, c, rfl⟩ := h.shape
  have hm := h.len
  simp only [maxLen] at hm
  have HP := Lib.hid h
  clear h
  obtain ⟨q1, hq1⟩ : ∃ q, inB 1 12 (js.length : Int) = q := ⟨_, rfl⟩
  have HQ1 := Lib.hid hq1
  clear hq1
  go_enter Tryz.func51, Tryz.ntmps51
  cases q1
  · have HN := Lib.hid (show areJobsB js = false by unfold areJobsB; rw [HQ1.out]; rfl)
    go_wp2_with (first | (go_at_call 66; refine (size_any _ _ (by unfold maxLen; omega)).mono ?_; rintro e w' ⟨rfl, rfl⟩) | (go_at_call 115; refine (within_any _ _ _ _).mono ?_; rintro e w' ⟨rfl, rfl⟩; rw [HQ1.out]))
    go_ret
    exact ⟨by rw [HN.out]; rfl, Below.refl _ _⟩
  go_wp2_with (first | (go_at_call 66; refine (size_any _ _ (by unfold maxLen; omega)).mono ?_; rintro e w' ⟨rfl, rfl⟩) | (go_at_call 115; refine (within_any _ _ _ _).mono ?_; rintro e w' ⟨rfl, rfl⟩; rw [HQ1.out]))
  go_loopw [12] (fun i wr => ∃ k : Nat, i = .int .i64 k ∧ k ≤ js.length ∧ Hid (∀ j, j < k → jobB (js.getD j J0) = true) ∧ Hid (Below w.heap.size w wr)) (fun i _ => js.length - (intOf i).toNat)
  case atStart => exact ⟨0, rfl, Nat.zero_le _, fun j hj => by omega, Below.refl _ _⟩
  case round =>
    obtain ⟨k, rfl, hk, hall, HB⟩ := hrel
    by_cases hlt : k < js.length
    · obtain ⟨b, off, rfl, hb, x0, x1, x2, x3⟩ := (HP.out.up HB.out (Nat.le_refl _)).at hlt
      obtain ⟨x, hx⟩ : ∃ x, x = js.getD k J0 := ⟨_, rfl⟩
      rw [← hx] at x0 x1 x2 x3
      have HX := Lib.hid hx
      clear hx
      obtain ⟨t1, h1⟩ : ∃ t, inB 1 1000 x.long = t := ⟨_, rfl⟩
      obtain ⟨t2, h2⟩ : ∃ t, inB 0 100000 x.due = t := ⟨_, rfl⟩
      obtain ⟨t3, h3⟩ : ∃ t, inB 0 100000 x.ready = t := ⟨_, rfl⟩
      obtain ⟨t4, h4⟩ : ∃ t, inB 0 1000 x.weight = t := ⟨_, rfl⟩
      have HJ := Lib.hid (show jobB x = (t1 && (t2 && (t3 && t4))) by unfold jobB; rw [h1, h2, h3, h4])
      have T1 := Lib.hid h1
      have T2 := Lib.hid h2
      have T3 := Lib.hid h3
      have T4 := Lib.hid h4
      have hz := HB.out.size
      clear h1 h2 h3 h4
      have HNO := Lib.hid (show jobB x = false → areJobsB js = false from fun h => by unfold areJobsB; rw [allB_false hlt (by rw [← HX.out]; exact h), Bool.and_false])
      cases t1
      · have HN := Lib.hid (HNO.out (by rw [HJ.out]; simp))
        go_wp2_with (go_at_call 115; refine (within_any _ _ _ _).mono ?_; rintro e w' ⟨rfl, rfl⟩; first | rw [T1.out] | rw [T2.out] | rw [T3.out] | rw [T4.out])
        go_ret
        refine ⟨by rw [HN.out]; rfl, HB.out.trans (Below.mono ?_ hz)⟩
        (repeat' first | exact Below.refl _ _ | assumption | refine Below.alloc ?_ ?_ _ | refine Below.setCell ?_ ?_ _ | refine Below.drew ?_ | (simp; done) | (simp; omega))
      cases t2
      · have HN := Lib.hid (HNO.out (by rw [HJ.out]; simp))
        go_wp2_with (go_at_call 115; refine (within_any _ _ _ _).mono ?_; rintro e w' ⟨rfl, rfl⟩; first | rw [T1.out] | rw [T2.out] | rw [T3.out] | rw [T4.out])
        go_ret
        refine ⟨by rw [HN.out]; rfl, HB.out.trans (Below.mono ?_ hz)⟩
        (repeat' first | exact Below.refl _ _ | assumption | refine Below.alloc ?_ ?_ _ | refine Below.setCell ?_ ?_ _ | refine Below.drew ?_ | (simp; done) | (simp; omega))
      cases t3
      · have HN := Lib.hid (HNO.out (by rw [HJ.out]; simp))
        go_wp2_with (go_at_call 115; refine (within_any _ _ _ _).mono ?_; rintro e w' ⟨rfl, rfl⟩; first | rw [T1.out] | rw [T2.out] | rw [T3.out] | rw [T4.out])
        go_ret
        refine ⟨by rw [HN.out]; rfl, HB.out.trans (Below.mono ?_ hz)⟩
        (repeat' first | exact Below.refl _ _ | assumption | refine Below.alloc ?_ ?_ _ | refine Below.setCell ?_ ?_ _ | refine Below.drew ?_ | (simp; done) | (simp; omega))
      cases t4
      · have HN := Lib.hid (HNO.out (by rw [HJ.out]; simp))
        go_wp2_with (go_at_call 115; refine (within_any _ _ _ _).mono ?_; rintro e w' ⟨rfl, rfl⟩; first | rw [T1.out] | rw [T2.out] | rw [T3.out] | rw [T4.out])
        go_ret
        refine ⟨by rw [HN.out]; rfl, HB.out.trans (Below.mono ?_ hz)⟩
        (repeat' first | exact Below.refl _ _ | assumption | refine Below.alloc ?_ ?_ _ | refine Below.setCell ?_ ?_ _ | refine Below.drew ?_ | (simp; done) | (simp; omega))
      go_wp2_with (go_at_call 115; refine (within_any _ _ _ _).mono ?_; rintro e w' ⟨rfl, rfl⟩; first | rw [T1.out] | rw [T2.out] | rw [T3.out] | rw [T4.out])
      go_roundw
      case rel =>
        refine ⟨k + 1, by go_num, by omega, fun j hj => ?_, HB.out.trans (Below.mono ?_ hz)⟩
        · by_cases hjk : j < k
          · exact hall.out j hjk
          · obtain rfl : j = k := by omega
            rw [← HX.out, HJ.out]; rfl
        · (repeat' first | exact Below.refl _ _ | assumption | refine Below.alloc ?_ ?_ _ | refine Below.setCell ?_ ?_ _ | refine Below.drew ?_ | (simp; done) | (simp; omega))
      case measure => simp [intOf]; omega
    · obtain rfl : k = js.length := by omega
      have HN := Lib.hid (show areJobsB js = true by unfold areJobsB; rw [HQ1.out, allB_true hall.out]; rfl)
      go_wp2_with fail
      go_ret
      exact ⟨by rw [HN.out]; rfl, HB.out⟩
end Go.Proofs.YtgkbbpajkbkgnaaGreatDoor
