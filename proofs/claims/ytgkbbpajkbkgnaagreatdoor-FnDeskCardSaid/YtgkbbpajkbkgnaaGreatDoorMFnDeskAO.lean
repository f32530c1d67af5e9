/-
  FnDesk: texts joined: JobDraw, SortM, CmpI, Make, ValidD2, Cities, CitiesM.
-/
import Derived.Maps.AppendAt
import Derived.Deep.RegionLaw
import Derived.Deep.CutRange
import Derived.Lib.AppendZeros
import Derived.Sort.LotA
import Derived.Sort.WalkA
import Derived.Test.YtgkbbpajkbkgnaaGreatDoorMFnDeskAB
import Derived.Test.YtgkbbpajkbkgnaaGreatDoorMFnDeskAC
import Derived.Test.YtgkbbpajkbkgnaaGreatDoorMFnDeskAN
set_option linter.unusedVariables false
set_option linter.unusedSimpArgs false
namespace Go.Proofs.YtgkbbpajkbkgnaaGreatDoor
open Go.RowKit
theorem Tryz.infoJob8 : (Tryz.prog.info? 86).map (fun i => (i.zero, i.size, i.bytes)) = some (some (.agg #[.int .i64 0, .int .i64 0, .int .i64 0, .int .i64 0]), 4, 32) := by kernel_rfl
theorem jobsC_snoc8 (js : List JobD) (j : JobD) : jobsC (js ++ [j]) = jobsC js ++ jobCells j := by simp [jobsC]
theorem ownJ_empty8 (w : World) (b : Nat) (hb : b = w.heap.size) : (w.alloc (.cells #[] 86)).ownsRow w.heap.size 86 4 (.slice (some ⟨b, 0, none⟩) 0 0) 0 (jobsC []) := by
  subst hb
  exact World.ownsRow_lit (base := w.heap.size) (e := 86) (size := 4) w #[] 0 (Nat.le_refl _) (by simp [maxLen]) rfl
theorem owns4_shape8 {w : World} {base n : Nat} {v : Value} {vs : List Value} (h : w.ownsRow base 86 4 v n vs) : ∃ a cap, v = .slice a n cap := by
  rcases h.2 with ⟨rfl, e⟩ | ⟨g, cap, cur, rfl, _⟩
  · subst e
    exact ⟨none, 0, rfl⟩
  · exact ⟨_, _, rfl⟩
theorem belowK_grown8 {w w' : World} {base n size : Nat} {e : TypeId} {v : Value} {vs : List Value} (h : w.ownsRow base e size v n vs) (hbase : base ≤ w.heap.size) (hg : w.grownBy w' v.ownBlock) : Below base w w' :=
  ⟨hg.os, hg.tape, hg.output, hg.size, fun k hk => hg.block k (by omega) fun e => by
    have := (h.lt k e.symm).1
    omega⟩
theorem run_app_job {w : World} (t : TypeId) (base : Nat) (v : Value) (n : Nat) (js : List JobD) (hown : w.ownsRow base 86 4 v n (jobsC js))
    (j : JobD) (b : Nat) (hblk : Blk w b 86 #[.int .i64 j.long, .int .i64 j.due, .int .i64 j.weight, .int .i64 j.ready]) (hlen : n ≤ 1048576) (hbase : base ≤ w.heap.size) :
    ∃ a' cap' w', (Builtin.append_ #[28, 28] t #[v, .slice (some ⟨b, 0, none⟩) 1 1]).run Tryz.prog w = .ok (.slice a' (n + 1) cap') w' ∧ w'.ownsRow base 86 4 (.slice a' (n + 1) cap') (n + 1) (jobsC (js ++ [j])) ∧ Below base w w' := by
  obtain ⟨i0, hi, hz0, hz1, hz2⟩ := info_parts Tryz.infoJob8
  have hc : ∀ t u, (jobCells j)[t]? = some u → w.cell? ((⟨b, 0, none⟩ : Addr).add t) = some u := by
    intro t u ht
    have h1 : w.heap[b]? = some (.cells #[.int .i64 j.long, .int .i64 j.due, .int .i64 j.weight, .int .i64 j.ready] 86) := hblk
    have h2 : ((⟨b, 0, none⟩ : Addr).add t) = ⟨b, t, none⟩ := by unfold Addr.add; split <;> simp_all
    rw [h2]
    simp only [World.cell?, h1]
    simpa [jobCells, I64] using ht
  obtain ⟨v', w', hr, h2, h3, _, h5⟩ := run_append_own_at (P := Tryz.prog) w base 28 t 86 i0 (.agg #[.int .i64 0, .int .i64 0, .int .i64 0, .int .i64 0]) 4 32 Tryz.underlying28 hi hz0 hz1 hz2 rfl (by decide) v n (jobsC js) hown ⟨b, 0, none⟩ 1 1 (jobCells j) rfl hc (by intro y hy; simp only [jobCells, List.mem_cons, List.not_mem_nil, or_false] at hy; rcases hy with rfl | rfl | rfl | rfl <;> rfl) (by unfold maxLen; omega) (by omega) hbase
  obtain ⟨a', cap', rfl⟩ := owns4_shape8 h2
  refine ⟨a', cap', w', hr, ?_, belowK_grown8 hown hbase h3⟩
  rw [jobsC_snoc8]
  exact h2
set_option maxHeartbeats 2000000 in
set_option maxRecDepth 4000 in
theorem l06DrawJobs_any (W0 : World) (v : Value) (bs : List Int) (hR : RdB W0 v bs) (hw : WfB bs) (sb c : Nat) (w : World) (hsb : W0.heap.size ≤ sb) (hb : Below W0.heap.size W0 w) (h : SrcAt w sb v c) (hc : c ≤ 1000) (n : Nat) (hn : n ≤ 64) :
    Calls Tryz.prog 113 #[.pointer (some ⟨sb, 0, none⟩), .int .i64 n] w fun e w' => ∃ (js : List JobD) (v' : Value), js.length = n ∧ (∀ i, i < n → jobB (js.getD i J0) = true) ∧ e = .returned v' ∧ OwnJ w.heap.size w'.heap.size w' v' js ∧ Kept (· = sb) w w' ∧ SrcAt w' sb v (c + 8 * n) := by
  have HR := Lib.hid hR
  have HW := Lib.hid hw
  have HB := Lib.hid hb
  have HS := Lib.hid h
  have hsw := h.lt
  clear hR hw hb h
  go_enter Tryz.func113, Tryz.ntmps113
  go_wp2_with fail
  go_loopw [1, 5] (fun nv ov wr => ∃ (j : Nat) (js : List JobD) (oa : Option Addr) (oc m : Nat), nv = .int .i64 j ∧ Hid (js.length = m) ∧ m + j = n ∧ ov = .slice oa m oc ∧ Hid (wr.ownsRow w.heap.size 86 4 (.slice oa m oc) m (jobsC js)) ∧ Hid (∀ i, i < m → jobB (js.getD i J0) = true) ∧ Hid (SrcAt wr sb v (c + 8 * m)) ∧ Hid (Kept (· = sb) w wr)) (fun nv _ _ => (intOf nv).toNat)
  case atStart => exact ⟨n, [], _, 0, 0, rfl, Lib.hid rfl, by omega, rfl, Lib.hid (ownJ_empty8 _ _ rfl), Lib.hid (by intro i hi; omega), Lib.hid (HS.out.below ((Below.refl _ _).alloc (Nat.le_refl _) _) hsw), Lib.hid ((Kept.refl _ _).alloc _)⟩
  case round =>
    obtain ⟨j, js, oa, oc, m, rfl, HL, hmj, rfl, HO, HA, HS2, HK⟩ := hrel
    obtain ⟨wo, rfl⟩ : ∃ wo, wo = wr := ⟨wr, rfl⟩
    have hszo := HK.out.size
    have HB2 := Lib.hid (HB.out.trans (HK.out.toBelow HB.out.size (fun k h1 h2 => by omega)))
    by_cases hj : 0 < j
    · have hjI : (0 : Int) < (j : Int) := by omega
      go_upto_region 5 with (go_at_call 81; refine (pick_any W0 v bs HR.out HW.out sb (c + 8 * m) wo hsb HB2.out HS2.out (by omega) 9 (by omega) (by omega)).mono ?_; rintro e w1 ⟨x, hx0, hx1, rfl, hs, hk⟩; have hwx : IntKind.i64.wrap (1 + x) = 1 + x := IntWalk.i64_in _ (by omega))
      refine wp_at fun W hW => ?_
      have hz1 := hk.size
      have HKP := Lib.hid (show Blk W w1.heap.size 86 #[.int .i64 (1 + x), .int .i64 0, .int .i64 0, .int .i64 0] by subst hW; exact Blk.new _ _ _)
      have HKW := Lib.hid (show Kept (· = sb) wo W by subst hW; exact hk.alloc _)
      have HSW := Lib.hid (show SrcAt W sb v (c + 8 * m + 2) by subst hW; exact hs.below ((Below.refl _ _).alloc (Nat.le_refl _) _) hs.lt)
      have HBW := Lib.hid (HB2.out.trans (HKW.out.toBelow HB2.out.size (fun k h1 h2 => by omega)))
      clear hW hs hk hwx
      have hsz1 := HKW.out.size
      have hsb1 : sb < w1.heap.size := by omega
      obtain ⟨p, hp⟩ : ∃ p, p = w1.heap.size := ⟨_, rfl⟩
      rw [← hp] at HKP ⊢
      have hpw : wo.heap.size ≤ p := by rw [hp]; exact hz1
      have hps : p ≠ sb := by omega
      have hpl := HKP.out.lt
      clear hp hsb1
      go_upto_region 6 with (go_at_call 81; refine (pick_any W0 v bs HR.out HW.out sb (c + 8 * m + 2) W hsb HBW.out HSW.out (by omega) 25 (by omega) (by omega)).mono ?_; rintro e w5 ⟨y, hy0, hy1, rfl, hs5, hk5⟩; have HKP5 := HKP.out.kept hk5 hps; have d5 := HKP5.cell 1 rfl; have f5 := HKP5.free 1)
      refine wp_at fun Wa hWa => ?_
      have HKPN5 := Lib.hid (show Blk Wa p 86 #[.int .i64 (1 + x), .int .i64 y, .int .i64 0, .int .i64 0] by subst hWa; simpa using HKP5.set 1 (.int .i64 y))
      have HSN5 := Lib.hid (show SrcAt Wa sb v (c + 8 * m + 4) by subst hWa; exact SrcAt.kept hs5 (Kept.setCell (S := fun b => b = p) (Kept.refl _ w5) (p := ⟨p, 1, none⟩) (.inr rfl) _) (fun e => hps e.symm))
      have HKN5 := Lib.hid (show Kept (· = sb) wo Wa by subst hWa; exact (HKW.out.trans hk5).setCell (.inl hpw) _)
      have HBN5 := Lib.hid (HB2.out.trans (HKN5.out.toBelow HB2.out.size (fun k h1 h2 => by omega)))
      clear hWa d5 f5 HKP5 hk5 hs5
      go_upto_region 7 with (go_at_call 81; refine (pick_any W0 v bs HR.out HW.out sb (c + 8 * m + 4) Wa hsb HBN5.out HSN5.out (by omega) 6 (by omega) (by omega)).mono ?_; rintro e w6 ⟨z, hz0, hz1, rfl, hs6, hk6⟩; have HKP6 := HKPN5.out.kept hk6 hps; have d6 := HKP6.cell 2 rfl; have f6 := HKP6.free 2)
      refine wp_at fun Wb hWb => ?_
      have HKPN6 := Lib.hid (show Blk Wb p 86 #[.int .i64 (1 + x), .int .i64 y, .int .i64 z, .int .i64 0] by subst hWb; simpa using HKP6.set 2 (.int .i64 z))
      have HSN6 := Lib.hid (show SrcAt Wb sb v (c + 8 * m + 6) by subst hWb; exact SrcAt.kept hs6 (Kept.setCell (S := fun b => b = p) (Kept.refl _ w6) (p := ⟨p, 2, none⟩) (.inr rfl) _) (fun e => hps e.symm))
      have HKN6 := Lib.hid (show Kept (· = sb) wo Wb by subst hWb; exact (HKN5.out.trans hk6).setCell (.inl hpw) _)
      have HBN6 := Lib.hid (HB2.out.trans (HKN6.out.toBelow HB2.out.size (fun k h1 h2 => by omega)))
      clear hWb d6 f6 HKP6 hk6 hs6
      go_upto_region 8 with (go_at_call 81; refine (pick_any W0 v bs HR.out HW.out sb (c + 8 * m + 6) Wb hsb HBN6.out HSN6.out (by omega) 12 (by omega) (by omega)).mono ?_; rintro e w7 ⟨u, hu0, hu1, rfl, hs7, hk7⟩; have HKP7 := HKPN6.out.kept hk7 hps; have d7 := HKP7.cell 3 rfl; have f7 := HKP7.free 3)
      refine wp_at fun Wc hWc => ?_
      have HKPN7 := Lib.hid (show Blk Wc p 86 #[.int .i64 (1 + x), .int .i64 y, .int .i64 z, .int .i64 u] by subst hWc; simpa using HKP7.set 3 (.int .i64 u))
      have HSN7 := Lib.hid (show SrcAt Wc sb v (c + 8 * m + 8) by subst hWc; exact SrcAt.kept hs7 (Kept.setCell (S := fun b => b = p) (Kept.refl _ w7) (p := ⟨p, 3, none⟩) (.inr rfl) _) (fun e => hps e.symm))
      have HKN7 := Lib.hid (show Kept (· = sb) wo Wc by subst hWc; exact (HKN6.out.trans hk7).setCell (.inl hpw) _)
      have HBN7 := Lib.hid (HB2.out.trans (HKN7.out.toBelow HB2.out.size (fun k h1 h2 => by omega)))
      clear hWc d7 f7 HKP7 hk7 hs7
      have d0 := HKPN7.out.cell 0 rfl
      have d1 := HKPN7.out.cell 1 rfl
      have d2 := HKPN7.out.cell 2 rfl
      have d3 := HKPN7.out.cell 3 rfl
      have hsz6 := HKN7.out.size
      have HO6 := Lib.hid (ownsK_kept HO.out HKN7.out (fun g hg e => by have := (HO.out.lt g hg).1; omega))
      have HRUN := Lib.hid (run_app_job (w := Wc.alloc (.cells #[.int .i64 (1 + x), .int .i64 y, .int .i64 z, .int .i64 u] 86)) 28 w.heap.size (.slice oa m oc) m js (ownsK_below HO6.out ((Below.refl _ _).alloc (Nat.le_refl _) _) (Nat.le_refl _)) ⟨1 + x, y, z, u⟩ Wc.heap.size (Blk.new _ _ _) (by omega) (by simp; omega))
      obtain ⟨a7, c7, w9, hr7, ho7, hb7⟩ := HRUN.out
      have HR7 := Lib.hid hr7
      clear hr7 HRUN
      go_wp2_with (at_builtin; refine Lib.wpList_append_run _ rfl _ _ 28 28 rfl _ _ rfl rfl _ _ HR7.out ?_)
      have HB7 := Lib.hid (((Below.refl w.heap.size Wc).alloc (by omega) _).trans hb7)
      go_roundw
      case rel => exact ⟨j - 1, js ++ [⟨1 + x, y, z, u⟩], a7, c7, m + 1, by rw [show ((j - 1 : Nat) : Int) = (j : Int) - 1 by omega], Lib.hid (by rw [List.length_append, HL.out]; rfl), by omega, rfl, Lib.hid ho7, Lib.hid (fun i hi => by
        by_cases e : i = m
        · rw [e, List.getD_eq_getElem?_getD, List.getElem?_append_right (by rw [HL.out]; exact Nat.le_refl _), HL.out, Nat.sub_self]
          show jobB ⟨1 + x, y, z, u⟩ = true
          unfold jobB
          simp only [Bool.and_eq_true, inB_iff]
          omega
        · have := HA.out i (by omega)
          rw [List.getD_eq_getElem?_getD] at this ⊢
          rw [List.getElem?_append_left (by rw [HL.out]; omega)]
          exact this), Lib.hid ((HSN7.out.below HB7.out hsw).mono (by omega)), Lib.hid ((HK.out.trans HKN7.out).below HB7.out (Nat.le_refl _))⟩
      case measure => simp [intOf]; omega
    · obtain rfl : j = 0 := by omega
      obtain rfl : m = n := by omega
      go_wp2_with fail
      go_ret
      exact ⟨js, _, HL.out, HA.out, rfl, by rw [← HL.out] at HO ⊢; exact OwnJ.mk HO.out, HK.out, HS2.out⟩
end Go.Proofs.YtgkbbpajkbkgnaaGreatDoor

namespace Go.Proofs.YtgkbbpajkbkgnaaGreatDoor
open Go.RowKit Go.Sort
def ltK (key : Nat → Int) (x y : Nat) : Bool := decide (key x < key y)
theorem swo_ltK (key : Nat → Int) : SWO (ltK key) where
  irrefl x := by simp [ltK]
  trans x y z h1 h2 := by simp only [ltK, decide_eq_true_eq] at *; omega
  ntrans x y z h1 h2 := by simp only [ltK, decide_eq_false_iff_not] at *; omega
def ordA (key : Nat → Int) (n : Nat) : Array Nat := insertionSort (ltK key) (Array.range n) 0 n
def ordL (key : Nat → Int) (n : Nat) : List Nat := (ordA key n).toList
theorem ordA_perm (key : Nat → Int) (n : Nat) : PermIn 0 n (Array.range n) (ordA key n) :=
  (insertionSort_holds (swo_ltK key) (Array.range n) 0 n (Nat.zero_le _) (by simp)).1
theorem ordA_size (key : Nat → Int) (n : Nat) : (ordA key n).size = n := by rw [(ordA_perm key n).1]; simp
theorem ordL_len (key : Nat → Int) (n : Nat) : (ordL key n).length = n := by unfold ordL; rw [Array.length_toList, ordA_size]
theorem ordL_perm (key : Nat → Int) (n : Nat) : (ordL key n).Perm (List.range n) := by
  have h := (ordA_perm key n).2.2
  have e0 : ∀ (a : Array Nat) k, a.size = k → a.extract 0 k = a := by
    rintro a _ rfl
    exact Array.extract_size
  have e1 := e0 _ _ (ordA_size key n)
  have e2 := e0 (Array.range n) n (by simp)
  rw [e1, e2, Array.toList_range] at h
  exact h
theorem ordL_lt (key : Nat → Int) (n : Nat) : ∀ x ∈ ordL key n, x < n := fun x hx => List.mem_range.1 ((ordL_perm key n).mem_iff.1 hx)
end Go.Proofs.YtgkbbpajkbkgnaaGreatDoor

namespace Go.Proofs.YtgkbbpajkbkgnaaGreatDoor
open Go.RowKit Go.Sort
def cmpI (x y : Int) : Int := if x < y then -1 else if y < x then 1 else 0
def idxs (L : List Nat) : List Int := L.map fun k : Nat => (k : Int)
theorem idxs_len (L : List Nat) : (idxs L).length = L.length := by simp [idxs]
def encN (n x : Nat) : Value := I64 ((x % n : Nat) : Int)
theorem encN_map (n : Nat) (L : List Nat) (h : ∀ x, x ∈ L → x < n) : L.map (encN n) = (idxs L).map I64 := by
  unfold idxs
  rw [List.map_map]
  exact List.map_congr_left fun x hx => by simp [encN, Nat.mod_eq_of_lt (h x hx)]
theorem isNaN64_any (x : Int) (w : World) : Calls Tryz.prog 127 #[.int .i64 x] w fun e w' => e = .returned (.bool false) ∧ w = w' := by
  have h : (x != x) = false := by simp
  go_enter Tryz.func127, Tryz.ntmps127
  go_wp2_with fail
  go_ret
  exact ⟨rfl, rfl⟩
theorem cmp64_any (x y : Int) (w : World) : Calls Tryz.prog 65 #[.int .i64 x, .int .i64 y] w fun e w' => e = .returned (.int .i64 (cmpI x y)) ∧ w = w' := by
  go_enter Tryz.func65, Tryz.ntmps65
  by_cases h1 : x < y
  · have hc := Lib.hid (show cmpI x y = -1 by unfold cmpI; rw [if_pos h1])
    go_wp2_with (go_at_call 127; refine (isNaN64_any _ _).mono ?_; rintro e w' ⟨rfl, rfl⟩)
    go_ret
    exact ⟨by rw [hc.out]; rfl, rfl⟩
  · by_cases h2 : y < x
    · have hc := Lib.hid (show cmpI x y = 1 by unfold cmpI; rw [if_neg h1, if_pos h2])
      go_wp2_with (go_at_call 127; refine (isNaN64_any _ _).mono ?_; rintro e w' ⟨rfl, rfl⟩)
      go_ret
      exact ⟨by rw [hc.out]; rfl, rfl⟩
    · have hc := Lib.hid (show cmpI x y = 0 by unfold cmpI; rw [if_neg h1, if_neg h2])
      go_wp2_with (go_at_call 127; refine (isNaN64_any _ _).mono ?_; rintro e w' ⟨rfl, rfl⟩)
      go_ret
      exact ⟨by rw [hc.out]; rfl, rfl⟩
end Go.Proofs.YtgkbbpajkbkgnaaGreatDoor

namespace Go.Proofs.YtgkbbpajkbkgnaaGreatDoor
open Go.RowKit
def zerosA (n : Nat) : Array Value := madeCells (Value.int .i64 0).cells n
theorem zerosA_list (n : Nat) : (zerosA n).toList = (List.replicate n (0 : Int)).map I64 := by
  unfold zerosA
  rw [show (Value.int .i64 0).cells = #[Value.int .i64 0] from rfl, toList_madeCells_one, List.map_replicate]
  rfl
theorem run_make_ints (n : Nat) (hn : n ≤ 100000) (W : World) : (Instr.makeSlice 27 (.int .i64 n) (.int .i64 n)).run Tryz.prog W = .ok (.slice (some ⟨W.heap.size, 0, none⟩) n n) (W.alloc (.cells (zerosA n) 2)) := by
  obtain ⟨i0, hi, hz0, hz1, hz2⟩ := info_parts Tryz.infoI64
  have h := run_makeSlice (P := Tryz.prog) W 27 2 i0 (.int .i64 0) Tryz.underlying27 hi hz0 .i64 .i64 n n (by omega) (Int.le_refl _) (by rw [hz1]; omega) (by rw [hz2]; omega) (by omega)
  rw [h, hz1]
  simp [zerosA]
theorem owns_zerosI (n : Nat) (hn : n ≤ 100000) (W : World) (b : Nat) (hb : b = W.heap.size) : (W.alloc (.cells (zerosA n) 2)).ownsRow W.heap.size 2 1 (.slice (some ⟨b, 0, none⟩) n n) n ((List.replicate n (0 : Int)).map I64) := by
  subst hb
  rw [← zerosA_list]
  have hs : (zerosA n).size = n := by rw [← Array.length_toList, zerosA_list]; simp
  exact World.ownsRow_lit (base := W.heap.size) (e := 2) (size := 1) W (zerosA n) n (Nat.le_refl _) (by simp [maxLen]; omega) (by rw [hs]; omega)
end Go.Proofs.YtgkbbpajkbkgnaaGreatDoor

namespace Go.Proofs.YtgkbbpajkbkgnaaGreatDoor
open Go.RowKit
def areSizesB (xs : List Int) : Bool := inB 1 16 xs.length && allIn 1 1000 xs
set_option maxHeartbeats 1000000 in
theorem AreSizes_any (v : Value) (xs : List Int) (w : World) (h : RdI w v xs) :
    Calls Tryz.prog 58 #[v] w fun e w' => e = .returned (.bool (areSizesB xs)) ∧ w = w' := by
  obtain ⟨q2, hq2⟩ : ∃ q, allIn 1 1000 xs = q := ⟨_, rfl⟩
  have HW := Lib.hid (allWithin_any v xs 1 1000 w h)
  rw [hq2] at HW
  obtain ⟨a, c, rfl⟩ := h.shape
  have hm := h.len
  simp only [maxLen] at hm
  clear h
  obtain ⟨q1, hq1⟩ : ∃ q, inB 1 16 (xs.length : Int) = q := ⟨_, rfl⟩
  have HQ1 := Lib.hid hq1
  have HQ2 := Lib.hid hq2
  clear hq1 hq2
  go_enter Tryz.func58, Tryz.ntmps58
  cases q1
  · have HN := Lib.hid (show areSizesB xs = false by unfold areSizesB; rw [HQ1.out]; rfl)
    go_wp2_with (first | (go_at_call 66; refine (size_any _ _ (by unfold maxLen; omega)).mono ?_; rintro e w' ⟨rfl, rfl⟩) | (go_at_call 115; refine (within_any _ _ _ _).mono ?_; rintro e w' ⟨rfl, rfl⟩; rw [HQ1.out]))
    go_ret
    exact ⟨by rw [HN.out]; rfl, rfl⟩
  · have HN := Lib.hid (show areSizesB xs = q2 by unfold areSizesB; rw [HQ1.out, HQ2.out]; rfl)
    go_wp2_with (first | (go_at_call 66; refine (size_any _ _ (by unfold maxLen; omega)).mono ?_; rintro e w' ⟨rfl, rfl⟩) | (go_at_call 115; refine (within_any _ _ _ _).mono ?_; rintro e w' ⟨rfl, rfl⟩; rw [HQ1.out]))
    refine HW.out.mono ?_
    rintro e w' ⟨rfl, rfl⟩
    go_wp2_with fail
    go_ret
    exact ⟨by rw [HN.out]; rfl, rfl⟩
end Go.Proofs.YtgkbbpajkbkgnaaGreatDoor

namespace Go.Proofs.YtgkbbpajkbkgnaaGreatDoor
open Go.RowKit
def citF (L : Nat) : Nat → Nat → Int
  | 0, _ => -1
  | f + 1, n => if ((L : Int) == (n : Int) * (n : Int)) = true then (n : Int) else citF L f (n + 1)
def citN (L : Nat) : Int := citF L 10 1
set_option maxHeartbeats 1000000 in
set_option maxRecDepth 4000 in
theorem cities_any (v : Value) (xs : List Int) (w : World) (h : RdI w v xs) :
    Calls Tryz.prog 60 #[v] w fun e w' => e = .returned (.int .i64 (citN xs.length)) ∧ w = w' := by
  obtain ⟨a, c, rfl⟩ := h.shape
  have hm := h.len
  simp only [maxLen] at hm
  clear h
  go_enter Tryz.func60, Tryz.ntmps60
  go_wp2_with fail
  go_loop [3] (fun i => ∃ k : Nat, i = .int .i64 ((k : Int) + 1) ∧ k ≤ 10 ∧ Hid (citN xs.length = citF xs.length (10 - k) (k + 1))) (fun i => 11 - (intOf i).toNat)
  case atStart => exact ⟨0, rfl, Nat.zero_le _, rfl⟩
  case round =>
    obtain ⟨k, rfl, hk, HC⟩ := hrel
    by_cases hlt : k < 10
    · have HS := Lib.hid (show citF xs.length (10 - k) (k + 1) = if ((xs.length : Int) == ((k : Int) + 1) * ((k : Int) + 1)) = true then ((k : Int) + 1) else citF xs.length (10 - (k + 1)) (k + 1 + 1) by
        rw [show 10 - k = (10 - (k + 1)) + 1 by omega]; simp [citF])
      have hkk : ((k : Int) + 1) * ((k : Int) + 1) ≤ 100 := by
        have h1 : (k : Int) + 1 ≤ 10 := by omega
        have h0 : (0 : Int) ≤ (k : Int) + 1 := by omega
        calc ((k : Int) + 1) * ((k : Int) + 1) ≤ 10 * 10 := Int.mul_le_mul h1 h1 h0 (by decide)
          _ = 100 := by decide
      have hk0 : (0 : Int) ≤ ((k : Int) + 1) * ((k : Int) + 1) := Int.mul_nonneg (by omega) (by omega)
      cases hq : ((xs.length : Int) == ((k : Int) + 1) * ((k : Int) + 1))
      · have HQ := Lib.hid hq
        go_wp2_with (go_at_call 66; refine (size_any _ _ (by unfold maxLen; omega)).mono ?_; rintro e w' ⟨rfl, rfl⟩)
        go_round
        case rel => exact ⟨k + 1, by go_num, by omega, by rw [HC.out, HS.out, HQ.out]; rfl⟩
        case measure => simp [intOf]; omega
      · have HQ := Lib.hid hq
        go_wp2_with (go_at_call 66; refine (size_any _ _ (by unfold maxLen; omega)).mono ?_; rintro e w' ⟨rfl, rfl⟩)
        go_ret
        exact ⟨by rw [HC.out, HS.out, HQ.out]; rfl, rfl⟩
    · obtain rfl : k = 10 := by omega
      go_wp2_with fail
      go_ret
      exact ⟨by rw [HC.out]; rfl, rfl⟩
end Go.Proofs.YtgkbbpajkbkgnaaGreatDoor

namespace Go.Proofs.YtgkbbpajkbkgnaaGreatDoor
open Go.RowKit
def symB (n : Nat) (xs : List Int) (i k : Nat) : Bool := (xs.getD (i * n + k) 0 == xs.getD (k * n + i) 0) && (!(i == k) || xs.getD (i * n + k) 0 == 0)
def areCitiesB (xs : List Int) : Bool := decide (0 ≤ citN xs.length) && (allIn 0 1000 xs && allB (citN xs.length).toNat (fun i => allB (i + 1) (fun k => symB (citN xs.length).toNat xs i k)))
theorem citF_spec (L : Nat) : ∀ f n, (citF L f n = -1 ∧ ∀ j, n ≤ j → j < n + f → j * j ≠ L) ∨ ∃ j : Nat, citF L f n = (j : Int) ∧ n ≤ j ∧ j < n + f ∧ j * j = L
  | 0, n => .inl ⟨rfl, fun j h1 h2 => by omega⟩
  | f + 1, n => by
    have ih := citF_spec L f (n + 1)
    unfold citF
    by_cases h : n * n = L
    · right
      refine ⟨n, ?_, by omega, by omega, h⟩
      rw [if_pos]
      simp only [beq_iff_eq]
      rw [← h]; push_cast; rfl
    · rw [if_neg (by simp only [beq_iff_eq]; intro e; apply h; have e2 : (L : Int) = ((n * n : Nat) : Int) := by rw [e]; push_cast; rfl
                     omega)]
      rcases ih with ⟨h1, h2⟩ | ⟨j, h1, h2, h3, h4⟩
      · left
        refine ⟨h1, fun j h3 h4 => ?_⟩
        by_cases e : j = n
        · subst e; exact h
        · exact h2 j (by omega) (by omega)
      · exact .inr ⟨j, h1, by omega, by omega, h4⟩
theorem citN_cases (L : Nat) : (citN L = -1 ∧ ∀ j, 1 ≤ j → j ≤ 10 → j * j ≠ L) ∨ ∃ j : Nat, citN L = (j : Int) ∧ 1 ≤ j ∧ j ≤ 10 ∧ j * j = L := by
  rcases citF_spec L 10 1 with ⟨h1, h2⟩ | ⟨j, h1, h2, h3, h4⟩
  · exact .inl ⟨h1, fun j a b => h2 j a (by omega)⟩
  · exact .inr ⟨j, h1, h2, by omega, h4⟩
theorem citN_eq {L n : Nat} (h1 : 1 ≤ n) (h2 : n ≤ 10) (h : n * n = L) : citN L = (n : Int) := by
  rcases citN_cases L with ⟨_, h3⟩ | ⟨j, h3, _, _, h4⟩
  · exact absurd h (h3 n h1 h2)
  · rw [h3]
    have : j = n := Nat.mul_self_inj.1 (by omega)
    omega
theorem symB_symm {n : Nat} {xs : List Int} {i k : Nat} (h : symB n xs i k = true) : symB n xs k i = true := by
  unfold symB at h ⊢
  simp only [Bool.and_eq_true, beq_iff_eq, Bool.or_eq_true, Bool.not_eq_true', beq_eq_false_iff_ne] at h ⊢
  obtain ⟨h1, h2⟩ := h
  refine ⟨h1.symm, ?_⟩
  rcases h2 with h2 | h2
  · exact .inl (Ne.symm h2)
  · right; omega
theorem symAll {n : Nat} {xs : List Int} : allB n (fun i => allB (i + 1) (fun k => symB n xs i k)) = true ↔ ∀ i k, i < n → k < n → symB n xs i k = true := by
  rw [allB_iff]
  constructor
  · intro h i k hi hk
    by_cases hik : k ≤ i
    · exact allB_iff.1 (h i hi) k (by omega)
    · exact symB_symm (allB_iff.1 (h k hk) i (by omega))
  · intro h i hi
    exact allB_iff.2 fun k hk => h i k hi (by omega)
theorem inAll {n : Nat} {xs : List Int} (hn : xs.length = n * n) : allIn 0 1000 xs = true ↔ ∀ i k, i < n → k < n → inB 0 1000 (xs.getD (i * n + k) 0) = true := by
  rw [allIn_iff]
  constructor
  · intro h i k hi hk
    refine h _ ?_
    rw [hn]
    have : (i + 1) * n ≤ n * n := Nat.mul_le_mul_right _ hi
    rw [Nat.add_mul] at this
    omega
  · intro h i hi
    have hn0 : 0 < n := by
      rcases Nat.eq_zero_or_pos n with e | e
      · subst e; omega
      · exact e
    have := h (i / n) (i % n) (by rw [Nat.div_lt_iff_lt_mul hn0]; omega) (Nat.mod_lt _ hn0)
    rwa [Nat.mul_comm, Nat.div_add_mod] at this
theorem areCities_not {xs : List Int} (h : ∀ j, 1 ≤ j → j ≤ 10 → j * j ≠ xs.length) : areCitiesB xs = false := by
  rcases citN_cases xs.length with ⟨h1, _⟩ | ⟨j, _, a, b, c⟩
  · unfold areCitiesB; rw [h1]; rfl
  · exact absurd c (h j a b)
end Go.Proofs.YtgkbbpajkbkgnaaGreatDoor
