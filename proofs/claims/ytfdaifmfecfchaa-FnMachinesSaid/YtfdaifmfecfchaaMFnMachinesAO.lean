/-
  FnMachines: texts joined: JobDraw, TourL, LsI.
-/
import Derived.Maps.AppendAt
import Derived.Deep.RegionLaw
import Derived.Deep.CutRange
import Derived.Lib.AppendZeros
import Derived.Test.YtfdaifmfecfchaaMFnMachinesAD
import Derived.Test.YtfdaifmfecfchaaMFnMachinesAE
import Derived.Test.YtfdaifmfecfchaaMFnMachinesAN
namespace Go.Proofs.Ytfdaifmfecfchaa
open Go.RowKit

theorem Try.infoJob8 : (Try.prog.info? 39).map (fun i => (i.zero, i.size, i.bytes)) = some (some (.agg #[.int .i64 0, .int .i64 0, .int .i64 0, .int .i64 0]), 4, 32) := by kernel_rfl
theorem jobsC_snoc8 (js : List JobD) (j : JobD) : jobsC (js ++ [j]) = jobsC js ++ jobCells j := by simp [jobsC]
theorem ownJ_empty8 (w : World) (b : Nat) (hb : b = w.heap.size) : (w.alloc (.cells #[] 39)).ownsRow w.heap.size 39 4 (.slice (some ⟨b, 0, none⟩) 0 0) 0 (jobsC []) := by
  subst hb
  exact World.ownsRow_lit (base := w.heap.size) (e := 39) (size := 4) w #[] 0 (Nat.le_refl _) (by simp [maxLen]) rfl
theorem owns4_shape8 {w : World} {base n : Nat} {v : Value} {vs : List Value} (h : w.ownsRow base 39 4 v n vs) : ∃ a cap, v = .slice a n cap := by
  rcases h.2 with ⟨rfl, e⟩ | ⟨g, cap, cur, rfl, _⟩
  · subst e
    exact ⟨none, 0, rfl⟩
  · exact ⟨_, _, rfl⟩
theorem belowK_grown8 {w w' : World} {base n size : Nat} {e : TypeId} {v : Value} {vs : List Value} (h : w.ownsRow base e size v n vs) (hbase : base ≤ w.heap.size) (hg : w.grownBy w' v.ownBlock) : Below base w w' :=
  ⟨hg.os, hg.tape, hg.output, hg.size, fun k hk => hg.block k (by omega) fun e => by
    have := (h.lt k e.symm).1
    omega⟩

theorem run_app_job {w : World} (t : TypeId) (base : Nat) (v : Value) (n : Nat) (js : List JobD) (hown : w.ownsRow base 39 4 v n (jobsC js))
    (j : JobD) (b : Nat) (hblk : Blk w b 39 #[.int .i64 j.long, .int .i64 j.due, .int .i64 j.weight, .int .i64 j.ready]) (hlen : n ≤ 1048576) (hbase : base ≤ w.heap.size) :
    ∃ a' cap' w', (Builtin.append_ #[25, 25] t #[v, .slice (some ⟨b, 0, none⟩) 1 1]).run Try.prog w = .ok (.slice a' (n + 1) cap') w' ∧ w'.ownsRow base 39 4 (.slice a' (n + 1) cap') (n + 1) (jobsC (js ++ [j])) ∧ Below base w w' := by
  obtain ⟨i0, hi, hz0, hz1, hz2⟩ := info_parts Try.infoJob8
  have hc : ∀ t u, (jobCells j)[t]? = some u → w.cell? ((⟨b, 0, none⟩ : Addr).add t) = some u := by
    intro t u ht
    have h1 : w.heap[b]? = some (.cells #[.int .i64 j.long, .int .i64 j.due, .int .i64 j.weight, .int .i64 j.ready] 39) := hblk
    have h2 : ((⟨b, 0, none⟩ : Addr).add t) = ⟨b, t, none⟩ := by unfold Addr.add; split <;> simp_all
    rw [h2]
    simp only [World.cell?, h1]
    simpa [jobCells, I64] using ht
  obtain ⟨v', w', hr, h2, h3, _, h5⟩ := run_append_own_at (P := Try.prog) w base 25 t 39 i0 (.agg #[.int .i64 0, .int .i64 0, .int .i64 0, .int .i64 0]) 4 32 Try.underlying25 hi hz0 hz1 hz2 rfl (by decide) v n (jobsC js) hown ⟨b, 0, none⟩ 1 1 (jobCells j) rfl hc (by intro y hy; simp only [jobCells, List.mem_cons, List.not_mem_nil, or_false] at hy; rcases hy with rfl | rfl | rfl | rfl <;> rfl) (by unfold maxLen; omega) (by omega) hbase
  obtain ⟨a', cap', rfl⟩ := owns4_shape8 h2
  refine ⟨a', cap', w', hr, ?_, belowK_grown8 hown hbase h3⟩
  rw [jobsC_snoc8]
  exact h2

set_option maxHeartbeats 2000000 in
set_option maxRecDepth 4000 in
theorem l06DrawJobs_any (W0 : World) (v : Value) (bs : List Int) (hR : RdB W0 v bs) (hw : WfB bs) (sb c : Nat) (w : World) (hsb : W0.heap.size ≤ sb) (hb : Below W0.heap.size W0 w) (h : SrcAt w sb v c) (hc : c ≤ 1000) (n : Nat) (hn : n ≤ 64) :
    Calls Try.prog 37 #[.pointer (some ⟨sb, 0, none⟩), .int .i64 n] w fun e w' => ∃ (js : List JobD) (v' : Value), js.length = n ∧ (∀ i, i < n → jobB (js.getD i J0) = true) ∧ e = .returned v' ∧ OwnJ w.heap.size w'.heap.size w' v' js ∧ Kept (· = sb) w w' := by
  have HR := Lib.hid hR
  have HW := Lib.hid hw
  have HB := Lib.hid hb
  have HS := Lib.hid h
  have hsw := h.lt
  clear hR hw hb h
  go_enter Try.func37, Try.ntmps37
  go_wp2_with fail
  go_loopw [1, 5] (fun nv ov wr => ∃ (j : Nat) (js : List JobD) (oa : Option Addr) (oc m : Nat), nv = .int .i64 j ∧ Hid (js.length = m) ∧ m + j = n ∧ ov = .slice oa m oc ∧ Hid (wr.ownsRow w.heap.size 39 4 (.slice oa m oc) m (jobsC js)) ∧ Hid (∀ i, i < m → jobB (js.getD i J0) = true) ∧ Hid (SrcAt wr sb v (c + 8 * m)) ∧ Hid (Kept (· = sb) w wr)) (fun nv _ _ => (intOf nv).toNat)
  case atStart => exact ⟨n, [], _, 0, 0, rfl, Lib.hid rfl, by omega, rfl, Lib.hid (ownJ_empty8 _ _ rfl), Lib.hid (by intro i hi; omega), Lib.hid (HS.out.below ((Below.refl _ _).alloc (Nat.le_refl _) _) hsw), Lib.hid ((Kept.refl _ _).alloc _)⟩
  case round =>
    obtain ⟨j, js, oa, oc, m, rfl, HL, hmj, rfl, HO, HA, HS2, HK⟩ := hrel
    obtain ⟨wo, rfl⟩ : ∃ wo, wo = wr := ⟨wr, rfl⟩
    have hszo := HK.out.size
    have HB2 := Lib.hid (HB.out.trans (HK.out.toBelow HB.out.size (fun k h1 h2 => by omega)))
    by_cases hj : 0 < j
    · have hjI : (0 : Int) < (j : Int) := by omega
      go_upto_region 5 with (go_at_call 38; refine (pick_any W0 v bs HR.out HW.out sb (c + 8 * m) wo hsb HB2.out HS2.out (by omega) 9 (by omega) (by omega)).mono ?_; rintro e w1 ⟨x, hx0, hx1, rfl, hs, hk⟩; have hwx : IntKind.i64.wrap (1 + x) = 1 + x := IntWalk.i64_in _ (by omega))
      refine wp_at fun W hW => ?_
      have hz1 := hk.size
      have HKP := Lib.hid (show Blk W w1.heap.size 39 #[.int .i64 (1 + x), .int .i64 0, .int .i64 0, .int .i64 0] by subst hW; exact Blk.new _ _ _)
      have HKW := Lib.hid (show Kept (· = sb) wo W by subst hW; exact hk.alloc _)
      have HSW := Lib.hid (show SrcAt W sb v (c + 8 * m + 2) by subst hW; exact hs.below ((Below.refl _ _).alloc (Nat.le_refl _) _) hs.lt)
      have HBW := Lib.hid (HB2.out.trans (HKW.out.toBelow HB2.out.size (fun k h1 h2 => by omega)))
      clear hW hs hk hwx
      have hsz1 := HKW.out.size
      have hsb1 : sb < w1.heap.size := by omega
      obtain ⟨p, hp⟩ : ∃ p, p = w1.heap.size := ⟨_, rfl⟩
      rw [← hp] at HKP ⊢
      have hpw : wo.heap.size ≤ p := by rw [hp]; exact hz1
      have hps : p ≠ sb := by omega
      have hpl := HKP.out.lt
      clear hp hsb1
      go_upto_region 6 with (go_at_call 38; refine (pick_any W0 v bs HR.out HW.out sb (c + 8 * m + 2) W hsb HBW.out HSW.out (by omega) 25 (by omega) (by omega)).mono ?_; rintro e w5 ⟨y, hy0, hy1, rfl, hs5, hk5⟩; have HKP5 := HKP.out.kept hk5 hps; have d5 := HKP5.cell 1 rfl; have f5 := HKP5.free 1)
      refine wp_at fun Wa hWa => ?_
      have HKPN5 := Lib.hid (show Blk Wa p 39 #[.int .i64 (1 + x), .int .i64 y, .int .i64 0, .int .i64 0] by subst hWa; simpa using HKP5.set 1 (.int .i64 y))
      have HSN5 := Lib.hid (show SrcAt Wa sb v (c + 8 * m + 4) by subst hWa; exact SrcAt.kept hs5 (Kept.setCell (S := fun b => b = p) (Kept.refl _ w5) (p := ⟨p, 1, none⟩) (.inr rfl) _) (fun e => hps e.symm))
      have HKN5 := Lib.hid (show Kept (· = sb) wo Wa by subst hWa; exact (HKW.out.trans hk5).setCell (.inl hpw) _)
      have HBN5 := Lib.hid (HB2.out.trans (HKN5.out.toBelow HB2.out.size (fun k h1 h2 => by omega)))
      clear hWa d5 f5 HKP5 hk5 hs5
      go_upto_region 7 with (go_at_call 38; refine (pick_any W0 v bs HR.out HW.out sb (c + 8 * m + 4) Wa hsb HBN5.out HSN5.out (by omega) 6 (by omega) (by omega)).mono ?_; rintro e w6 ⟨z, hz0, hz1, rfl, hs6, hk6⟩; have HKP6 := HKPN5.out.kept hk6 hps; have d6 := HKP6.cell 2 rfl; have f6 := HKP6.free 2)
      refine wp_at fun Wb hWb => ?_
      have HKPN6 := Lib.hid (show Blk Wb p 39 #[.int .i64 (1 + x), .int .i64 y, .int .i64 z, .int .i64 0] by subst hWb; simpa using HKP6.set 2 (.int .i64 z))
      have HSN6 := Lib.hid (show SrcAt Wb sb v (c + 8 * m + 6) by subst hWb; exact SrcAt.kept hs6 (Kept.setCell (S := fun b => b = p) (Kept.refl _ w6) (p := ⟨p, 2, none⟩) (.inr rfl) _) (fun e => hps e.symm))
      have HKN6 := Lib.hid (show Kept (· = sb) wo Wb by subst hWb; exact (HKN5.out.trans hk6).setCell (.inl hpw) _)
      have HBN6 := Lib.hid (HB2.out.trans (HKN6.out.toBelow HB2.out.size (fun k h1 h2 => by omega)))
      clear hWb d6 f6 HKP6 hk6 hs6
      go_upto_region 8 with (go_at_call 38; refine (pick_any W0 v bs HR.out HW.out sb (c + 8 * m + 6) Wb hsb HBN6.out HSN6.out (by omega) 12 (by omega) (by omega)).mono ?_; rintro e w7 ⟨u, hu0, hu1, rfl, hs7, hk7⟩; have HKP7 := HKPN6.out.kept hk7 hps; have d7 := HKP7.cell 3 rfl; have f7 := HKP7.free 3)
      refine wp_at fun Wc hWc => ?_
      have HKPN7 := Lib.hid (show Blk Wc p 39 #[.int .i64 (1 + x), .int .i64 y, .int .i64 z, .int .i64 u] by subst hWc; simpa using HKP7.set 3 (.int .i64 u))
      have HSN7 := Lib.hid (show SrcAt Wc sb v (c + 8 * m + 8) by subst hWc; exact SrcAt.kept hs7 (Kept.setCell (S := fun b => b = p) (Kept.refl _ w7) (p := ⟨p, 3, none⟩) (.inr rfl) _) (fun e => hps e.symm))
      have HKN7 := Lib.hid (show Kept (· = sb) wo Wc by subst hWc; exact (HKN6.out.trans hk7).setCell (.inl hpw) _)
      have HBN7 := Lib.hid (HB2.out.trans (HKN7.out.toBelow HB2.out.size (fun k h1 h2 => by omega)))
      clear hWc d7 f7 HKP7 hk7 hs7
      have d0 := HKPN7.out.cell 0 rfl
      have d1 := HKPN7.out.cell 1 rfl
      have d2 := HKPN7.out.cell 2 rfl
      have d3 := HKPN7.out.cell 3 rfl
      have hsz6 := HKN7.out.size
      have HO6 := Lib.hid (ownsK_kept HO.out HKN7.out (fun g hg e => by have := (HO.out.lt g hg).1; omega))
      have HRUN := Lib.hid (run_app_job (w := Wc.alloc (.cells #[.int .i64 (1 + x), .int .i64 y, .int .i64 z, .int .i64 u] 39)) 25 w.heap.size (.slice oa m oc) m js (ownsK_below HO6.out ((Below.refl _ _).alloc (Nat.le_refl _) _) (Nat.le_refl _)) ⟨1 + x, y, z, u⟩ Wc.heap.size (Blk.new _ _ _) (by omega) (by simp; omega))
      obtain ⟨a7, c7, w9, hr7, ho7, hb7⟩ := HRUN.out
      have HR7 := Lib.hid hr7
      clear hr7 HRUN
      go_wp2_with (at_builtin; refine Lib.wpList_append_run _ rfl _ _ 25 25 rfl _ _ rfl rfl _ _ HR7.out ?_)
      have HB7 := Lib.hid (((Below.refl w.heap.size Wc).alloc (by omega) _).trans hb7)
      go_roundw
      case rel => exact ⟨j - 1, js ++ [⟨1 + x, y, z, u⟩], a7, c7, m + 1, by rw [show ((j - 1 : Nat) : Int) = (j : Int) - 1 by omega], Lib.hid (by rw [List.length_append, HL.out]; rfl), by omega, rfl, Lib.hid ho7, Lib.hid (fun i hi => by
        by_cases e : i = m
        · rw [e, List.getD_eq_getElem?_getD, List.getElem?_append_right (by rw [HL.out]; exact Nat.le_refl _), HL.out, Nat.sub_self]
          show jobB ⟨1 + x, y, z, u⟩ = true
          unfold jobB
          simp only [Bool.and_eq_true, inB_iff]
          omega
        · have := HA.out i (by omega)
          rw [List.getD_eq_getElem?_getD] at this ⊢
          rw [List.getElem?_append_left (by rw [HL.out]; omega)]
          exact this), Lib.hid ((HSN7.out.below HB7.out hsw).mono (by omega)), Lib.hid ((HK.out.trans HKN7.out).below HB7.out (Nat.le_refl _))⟩
      case measure => simp [intOf]; omega
    · obtain rfl : j = 0 := by omega
      obtain rfl : m = n := by omega
      go_wp2_with fail
      go_ret
      exact ⟨js, _, HL.out, HA.out, rfl, by rw [← HL.out] at HO ⊢; exact OwnJ.mk HO.out, HK.out⟩

set_option maxHeartbeats 1000000 in
theorem R8Jobs_any (v : Value) (bs : List Int) (w : World) (hR : RdB w v bs) (hw : WfB bs) (n : Nat) (h1 : 1 ≤ n) (hn : n ≤ 12) :
    Calls Try.prog 8 #[v, .int .i64 n] w fun e w' => ∃ (js : List JobD) (v' : Value), js.length = n ∧ areJobsB js = true ∧ e = .returned v' ∧ OwnJ w.heap.size w'.heap.size w' v' js ∧ Below w.heap.size w w' := by
  have HR := Lib.hid hR
  have HW := Lib.hid hw
  have HF := Lib.hid (l00From_any v bs w hR)
  clear hR hw
  go_enter Try.func8, Try.ntmps8
  go_wp2_with fail
  refine HF.out.mono ?_
  rintro e w1 ⟨rfl, hs, hb1⟩
  have HS1 := Lib.hid hs
  have HB1 := Lib.hid hb1
  clear hs hb1 HF
  go_wp2_with fail
  refine (l06DrawJobs_any w v bs HR.out HW.out w.heap.size 0 w1 (Nat.le_refl _) HB1.out HS1.out (by omega) n (by omega)).mono ?_
  rintro e w2 ⟨js, v', hl, ha, rfl, ho, hk⟩
  have hz := HB1.out.size
  have HB2 := Lib.hid (HB1.out.trans (hk.toBelow hz (fun k h1 h2 => by omega)))
  have HO := Lib.hid (ho.wide hz (Nat.le_refl _))
  have HA := Lib.hid (show areJobsB js = true by
    unfold areJobsB
    rw [Bool.and_eq_true, allB_iff, inB_iff]
    exact ⟨by omega, fun i hi => ha i (by omega)⟩)
  have HL := Lib.hid hl
  clear hk ho ha hl
  go_wp2_with fail
  go_ret
  exact ⟨js, v', HL.out, HA.out, rfl, HO.out, HB2.out⟩

end Go.Proofs.Ytfdaifmfecfchaa

namespace Go.Proofs.Ytfdaifmfecfchaa
open Go.RowKit

theorem Try.infoBool8 : (Try.prog.info? 4).map (fun i => (i.zero, i.size, i.bytes)) = some (some (.bool false), 1, 1) := by kernel_rfl
def flV (n : Nat) (S : List Nat) : List Value := (List.range n).map fun i => Value.bool (S.contains i)
theorem flV_at {n i : Nat} (S : List Nat) (h : i < n) : (flV n S)[i]? = some (.bool (S.contains i)) := by
  unfold flV
  rw [List.getElem?_map, List.getElem?_range h]
  rfl
theorem flV_len (n : Nat) (S : List Nat) : (flV n S).length = n := by unfold flV; simp
theorem flV_zero (n : Nat) : flV n [] = List.replicate n (.bool false) := by
  unfold flV
  rw [List.eq_replicate_iff]
  refine ⟨by simp, ?_⟩
  intro b hb
  rw [List.mem_map] at hb
  obtain ⟨a, _, rfl⟩ := hb
  rfl
theorem flV_set {n x : Nat} (S : List Nat) (h : x < n) : (flV n S).set x (.bool true) = flV n (S ++ [x]) := by
  refine List.ext_getElem? ?_
  intro d
  rw [List.getElem?_set]
  by_cases hd : d < n
  · rw [flV_at _ hd, flV_at _ hd, flV_len]
    by_cases e : x = d
    · subst e
      rw [if_pos rfl, if_pos h]
      simp
    · rw [if_neg e]
      have : ¬ d = x := fun e2 => e e2.symm
      simp [this]
  · have h1 : (flV n S)[d]? = none := by rw [List.getElem?_eq_none]; rw [flV_len]; omega
    have h2 : (flV n (S ++ [x]))[d]? = none := by rw [List.getElem?_eq_none]; rw [flV_len]; omega
    rw [if_neg (by omega), h1, h2]
theorem perm_fresh {L : List Nat} {n i : Nat} (hp : L.Perm (List.range n)) (hi : i < n) : L.getD i 0 < n ∧ (L.take i).contains (L.getD i 0) = false ∧ L.take (i + 1) = L.take i ++ [L.getD i 0] := by
  have hl : L.length = n := by rw [hp.length_eq, List.length_range]
  have hil : i < L.length := by omega
  have hg : L.getD i 0 = L[i] := by rw [List.getD_eq_getElem?_getD, List.getElem?_eq_getElem hil]; rfl
  have hn : L.Nodup := hp.nodup_iff.2 List.nodup_range
  refine ⟨?_, ?_, ?_⟩
  · rw [hg]; exact List.mem_range.1 (hp.mem_iff.1 (List.getElem_mem _))
  · rw [← Bool.not_eq_true, List.contains_iff_mem]
    intro h
    have h2 := hn
    rw [← List.take_append_drop i L] at h2
    have h3 : L.getD i 0 ∈ L.drop i := by rw [List.drop_eq_getElem_cons hil, hg]; exact List.mem_cons_self ..
    exact (List.nodup_append.1 h2).2.2 _ h _ h3 rfl
  · rw [List.take_add_one, List.getElem?_eq_getElem hil, hg]; rfl

set_option maxHeartbeats 2000000 in
set_option maxRecDepth 4000 in
theorem r8Tour_any (v : Value) (L : List Nat) (n : Nat) (w : World) (h : RdI w v (idxs L)) (hp : L.Perm (List.range n)) (hn : n ≤ 1000) :
    Calls Try.prog 19 #[v, .int .i64 n] w fun e w' => e = .returned (.bool true) ∧ Below w.heap.size w w' := by
  have hl : L.length = n := by rw [hp.length_eq, List.length_range]
  obtain ⟨a, c, rfl⟩ := h.shape
  have hli : (idxs L).length = n := by rw [idxs_len, hl]
  rw [hli] at h ⊢
  obtain ⟨i0, hi, hz0, hz1, hz2⟩ := info_parts Try.infoBool8
  have HR := Lib.hid h
  have HP := Lib.hid hp
  have HL := Lib.hid hl
  clear h hp hl hli
  have hne : ((n : Int) != (n : Int)) = false := by simp
  go_enter Try.func19, Try.ntmps19
  go_upto_region 4 with (at_make; refine wpList_make_full _ rfl _ _ 46 rfl w.heap.size 4 i0 (.bool false) 1 Try.underlying46 hi hz0 hz1 .i64 .i64 n n n rfl rfl rfl rfl (by rw [hz2]; omega) (by simp [maxLen]; omega) (by simp) ?_; intro w2 hown hgrow)
  have hb2 : Below w.heap.size w w2 := (Below.refl _ _).grown hgrow (Nat.le_refl _) (by intro k hk; cases hk)
  have hz : (madeCells (Value.bool false).cells (n * 1)).toList = flV n [] := by
    rw [flV_zero]; simpa [Value.cells] using toList_madeCells_one (Value.bool false) n
  rw [hz] at hown
  obtain ⟨g, hg⟩ : ∃ g, g = w.heap.size := ⟨_, rfl⟩
  rw [← hg] at hown ⊢
  have hgl : g < w2.heap.size := (owns_lt hown (k := g) rfl).2
  have HO2 := Lib.hid hown
  have HB2 := Lib.hid hb2
  have HG := Lib.hid (show w.heap.size ≤ g by omega)
  clear hown hb2 hz hgrow hg hne
  go_wp2_with fail
  go_loopw [6] (fun iv wr => ∃ k : Nat, iv = .int .i64 k ∧ k ≤ n ∧ Hid (wr.ownsRow g 4 1 (.slice (some ⟨g, 0, none⟩) n n) n (flV n (L.take k))) ∧ Hid (Kept (· = g) w2 wr)) (fun iv _ => n + 1 - (intOf iv).toNat)
  case atStart => exact ⟨0, rfl, Nat.zero_le _, HO2, Lib.hid (Kept.refl _ _)⟩
  case round =>
    obtain ⟨k, rfl, hk, HO, HK⟩ := hrel
    obtain ⟨wo, rfl⟩ : ∃ wo, wo = wr := ⟨wr, rfl⟩
    have HB := Lib.hid (HB2.out.trans (HK.out.toBelow HB2.out.size (fun k h1 h2 => by have := HG.out; omega)))
    by_cases hlt : k < n
    · have hltI : (k : Int) < (n : Int) := by omega
      obtain ⟨hx1, hx2, hx3⟩ := perm_fresh HP.out hlt
      have HST0 := Lib.hid (HO.out.stored (L.getD k 0) (.bool true)).1
      rw [flV_set _ hx1, ← hx3] at HST0
      have HKS := Lib.hid (show Kept (· = g) w2 (wo.setCell ⟨g, L.getD k 0, none⟩ (.bool true)) from HK.out.setCell (.inr rfl) _)
      obtain ⟨ub, uo, rfl, _, hx⟩ := (HR.out.up HB.out (Nat.le_refl _)).at (i := k) (by rw [idxs_len, HL.out]; exact hlt)
      rw [idxs_get _ (by rw [HL.out]; exact hlt)] at hx
      have hd := HO.out.cellAt (L.getD k 0) (by omega)
      have hf := HO.out.frozenAt (L.getD k 0)
      rw [flV_at _ hx1, hx2] at hd
      obtain ⟨x, hxe⟩ : ∃ x, x = L.getD k 0 := ⟨_, rfl⟩
      rw [← hxe] at hx hd hf hx1 HST0 HKS
      have hxI : (x : Int) < (n : Int) := by omega
      have hxN : ¬ (n : Int) ≤ (x : Int) := by omega
      have hx0 : ¬ (x : Int) < 0 := by omega
      clear hxe hx2 hx3
      go_wp2_with fail
      go_roundw
      case rel => exact ⟨k + 1, by go_num, by omega, HST0, HKS⟩
      case measure => simp [intOf]; omega
    · obtain rfl : k = n := by omega
      go_wp2_with fail
      go_ret
      exact ⟨rfl, HB.out⟩

end Go.Proofs.Ytfdaifmfecfchaa

namespace Go.Proofs.Ytfdaifmfecfchaa
open Go.RowKit Go.Sort

set_option maxHeartbeats 4000000 in
set_option maxRecDepth 8000 in
theorem leastSpan_any (js : List JobD) (hok : areJobsB js = true) (m : Nat) (hm : 1 ≤ m) (hm8 : m ≤ 8) : ∀ (f : Nat) (used : List Int) (v u : Value) (w : World), f ≤ js.length → RdJ w v js → RdI w u used → used.length = m → (∀ k, 0 ≤ used.getD k 0 ∧ used.getD k 0 ≤ 1000 * ((js.length - f : Nat) : Int)) →
    Calls Try.prog 54 #[v, u, .int .i64 ((js.length - f : Nat) : Int)] w fun e w' => e = .returned (.int .i64 (spanR js f used)) ∧ Below w.heap.size w w'
  | 0, used, v, u, w, hf, h, hu, hl, hr => by
    obtain ⟨va, vc, rfl⟩ := h.shape
    have HMX := Lib.hid (maxI_any u used w hu (by omega))
    have HE := Lib.hid (show spanR js 0 used = maxL used from rfl)
    rw [Nat.sub_zero]
    have hee : ((js.length : Int) == (js.length : Int)) = true := by simp
    clear h hr
    go_enter Try.func54, Try.ntmps54
    go_wp2_with (go_at_call 63; refine HMX.out.mono ?_; rintro e w3 ⟨rfl, rfl⟩)
    go_ret
    exact ⟨by rw [HE.out]; rfl, Below.refl _ _⟩
  | f + 1, used, v, u, w, hf, h, hu, hl, hr => by
    have hrec := leastSpan_any js hok m hm hm8 f
    obtain ⟨hn1, hn2, hjf⟩ := jobs_all hok
    obtain ⟨va, vc, rfl⟩ := h.shape
    obtain ⟨ua, uc, rfl⟩ := hu.shape
    obtain ⟨i, hi⟩ : ∃ i, i = js.length - (f + 1) := ⟨_, rfl⟩
    have hi1 : js.length - f = i + 1 := by omega
    have hin : i < js.length := by omega
    rw [hi1] at hrec
    rw [← hi] at hr ⊢
    have HR := Lib.hid h
    have HU := Lib.hid hu
    have HRR := Lib.hid hr
    have HLL := Lib.hid hl
    obtain ⟨l, hl'⟩ : ∃ l, l = (js.getD i J0).long := ⟨_, rfl⟩
    have hlb : 0 ≤ l ∧ l ≤ 1000 := by have := hjf i hin; rw [hl']; omega
    have HE := Lib.hid (show spanR js (f + 1) used = (spanK (spanR js f) l used m).1 by rw [hl', hi, ← hl]; rfl)
    have HCJ := Lib.hid (fun X (hb : Below w.heap.size w X) => show ∃ jb jo, va = some ⟨jb, jo, none⟩ ∧ X.cell? ⟨jb, jo + i * 4, none⟩ = some (.int .i64 l) by
      obtain ⟨jb, jo, rfl, _, cj, _⟩ := (h.up hb (Nat.le_refl _)).at (i := i) hin
      exact ⟨jb, jo, rfl, by rw [hl']; exact cj⟩)
    have HST := Lib.hid (fun k => show spanK (spanR js f) l used (k + 1) = if (spanK (spanR js f) l used k).2 = true then spanK (spanR js f) l used k else
      (if (spanK (spanR js f) l used k).1 < 0 ∨ spanR js f (used.set k (used.getD k 0 + l)) < (spanK (spanR js f) l used k).1 then spanR js f (used.set k (used.getD k 0 + l)) else (spanK (spanR js f) l used k).1, used.getD k 0 == 0) from rfl)
    have HSP := Lib.hid (fun k (h : (spanK (spanR js f) l used k).2 = true) (hk : k ≤ m) => spanK_stop h m hk)
    have HRC := Lib.hid (fun k (hk : k < m) X u' (hb : Below w.heap.size w X) (hu' : RdI X u' (used.set k (used.getD k 0 + l))) => hrec (used.set k (used.getD k 0 + l)) (.slice va js.length vc) u' X (by omega) (h.up hb (Nat.le_refl _)) hu' (by rw [List.length_set]; exact hl) (fun k' => by
      rw [List.getD_eq_getElem?_getD, List.getElem?_set]
      have a := hr k
      have b := hr k'
      rw [List.getD_eq_getElem?_getD] at b
      by_cases e1 : k = k'
      · by_cases e2 : k < used.length
        · rw [if_pos e1, if_pos e2]
          simp only [Option.getD_some]
          push_cast
          omega
        · rw [if_pos e1, if_neg e2]
          show (0 : Int) ≤ 0 ∧ (0 : Int) ≤ 1000 * ((i + 1 : Nat) : Int)
          omega
      · rw [if_neg e1]
        push_cast
        omega))
    obtain ⟨T, hT⟩ : ∃ T, T = spanK (spanR js f) l used := ⟨_, rfl⟩
    obtain ⟨rec, hrc⟩ : ∃ T, T = spanR js f := ⟨_, rfl⟩
    have HT0 := Lib.hid (show T 0 = (-1, false) by rw [hT]; rfl)
    rw [← hT] at HE HST HSP
    rw [← hrc] at HST HRC
    obtain ⟨n, hn⟩ : ∃ n, n = js.length := ⟨_, rfl⟩
    rw [← hn] at HR HRC hin hn2 ⊢
    rw [hl] at HU ⊢
    have hne : ((i : Int) == (n : Int)) = false := by rw [beq_eq_false_iff_ne]; omega
    have hi1' : IntKind.i64.wrap ((i : Int) + 1) = ((i + 1 : Nat) : Int) := by rw [IntWalk.i64_in _ (by omega)]; push_cast; rfl
    have hinI : (i : Int) < (n : Int) := by omega
    clear h hu hr hl hrec hjf hok hi hl' hT hrc hn hi1
    go_enter Try.func54, Try.ntmps54
    go_wp2_with fail
    go_loopw [7, 20] (fun bv kv wr => ∃ k : Nat, kv = .int .i64 k ∧ k ≤ m ∧ bv = .int .i64 (T k).1 ∧ Hid ((T k).2 = false) ∧ Hid (Below w.heap.size w wr)) (fun _ kv _ => m + 1 - (intOf kv).toNat)
    case atStart => exact ⟨0, rfl, Nat.zero_le _, by rw [HT0.out], Lib.hid (by rw [HT0.out]), Lib.hid (Below.refl _ _)⟩
    case round =>
      obtain ⟨k, rfl, hk, rfl, HF, HB⟩ := hrel
      obtain ⟨wo, rfl⟩ : ∃ wo, wo = wr := ⟨wr, rfl⟩
      by_cases hlt : k < m
      · have hltI : (k : Int) < (m : Int) := by omega
        obtain ⟨ub, uo, rfl, _, cu⟩ := (HU.out.up HB.out (Nat.le_refl _)).at (i := k) (by rw [HLL.out]; exact hlt)
        have hS := HST.out k
        rw [HF.out, if_neg Bool.false_ne_true] at hS
        have HRK := Lib.hid (fun X u' hb hu' => HRC.out k hlt X u' hb hu')
        have hub := HRR.out k
        obtain ⟨x, hx⟩ : ∃ x, x = used.getD k 0 := ⟨_, rfl⟩
        rw [← hx] at cu hS HRK hub
        obtain ⟨l2, hl2⟩ : ∃ l2, l2 = used.set k (x + l) := ⟨_, rfl⟩
        rw [← hl2] at hS HRK
        obtain ⟨en, hen⟩ : ∃ en, en = rec l2 := ⟨_, rfl⟩
        have HRE := Lib.hid (fun X u' hb hu' => HRK.out X u' hb hu')
        rw [← hen] at hS
        have HX := Lib.hid hx
        have HL2 := Lib.hid hl2
        have HEN := Lib.hid hen.symm
        have HSS := Lib.hid hS
        have hadd : IntKind.i64.wrap (x + l) = x + l := IntWalk.i64_in _ (by omega)
        have HCP := Lib.hid (copyInts_any (some ⟨ub, uo, none⟩) uc used wo (by rw [HLL.out]; exact HU.out.up HB.out (Nat.le_refl _)) (by rw [HLL.out]; omega))
        rw [HLL.out] at HCP
        clear hx hl2 hen hS hub
        go_upto_region 8 with (go_at_call 80; refine HCP.out.mono ?_; rintro e w2 ⟨g, gc, rfl, hog, hb2⟩)
        have HB2 := Lib.hid (HB.out.trans (hb2.mono HB.out.size))
        obtain ⟨jb, jo, rfl, cj⟩ := HCJ.out w2 HB2.out
        have c1 : w2.cell? ⟨g, k, none⟩ = some (.int .i64 x) := by
          have hkl : k < used.length := by rw [HLL.out]; exact hlt
          rw [hog.cellAt k (by omega), List.getElem?_map, List.getElem?_eq_getElem hkl, HX.out, List.getD_eq_getElem?_getD, List.getElem?_eq_getElem hkl]
          rfl
        have c2 := hog.frozenAt k
        have HOG := Lib.hid hog
        have hgw : wo.heap.size ≤ g := (hog.lt g rfl).1
        have hzo := HB.out.size
        clear hog cu hb2
        have HB3 := Lib.hid (show Below w.heap.size w (w2.drew.setCell ⟨g, k, none⟩ (.int .i64 (x + l))) from HB2.out.drew.setCell (by show w.heap.size ≤ g; omega) _)
        have HU3 := Lib.hid (show RdI (w2.drew.setCell ⟨g, k, none⟩ (.int .i64 (x + l))) (.slice (some ⟨g, 0, none⟩) m gc) l2 from slc_of_owns (by rw [HL2.out, List.map_set]; exact ((owns_drew HOG.out).stored k (.int .i64 (x + l))).1))
        have HCL := Lib.hid (HRE.out _ _ HB3.out HU3.out)
        rw [HEN.out] at HCL
        have hz3 : w.heap.size ≤ (w2.drew.setCell ⟨g, k, none⟩ (.int .i64 (x + l))).heap.size := HB3.out.size
        have HFI := Lib.hid (fun W (hb4 : Below (w2.drew.setCell ⟨g, k, none⟩ (.int .i64 (x + l))).heap.size (w2.drew.setCell ⟨g, k, none⟩ (.int .i64 (x + l))) W) => HB3.out.trans (hb4.mono hz3))
        obtain ⟨b, hb⟩ : ∃ b, b = (T k).1 := ⟨_, rfl⟩
        rw [← hb] at HSS ⊢
        clear hb HRE HRK HRC HCP HU HR HCJ
        obtain ⟨zb, hzb⟩ : ∃ zb, (x == 0) = zb := ⟨_, rfl⟩
        rw [hzb] at HSS
        have hcase : b < 0 ∨ (¬ b < 0 ∧ en < b) ∨ (¬ b < 0 ∧ ¬ en < b) := by omega
        obtain ⟨nb, hnb⟩ : ∃ nb, nb = (if b < 0 ∨ en < b then en else b) := ⟨_, rfl⟩
        rw [← hnb] at HSS
        have hnb1 : (b < 0 ∨ en < b) → nb = en := fun h => by rw [hnb, if_pos h]
        have hnb2 : ¬ (b < 0 ∨ en < b) → nb = b := fun h => by rw [hnb, if_neg h]
        have HN1 := Lib.hid hnb1
        have HN2 := Lib.hid hnb2
        clear hnb hnb1 hnb2
        have HGO := Lib.hid (show zb = false → Hid ((T (k + 1)).2 = false) from fun h => Lib.hid (by rw [HSS.out, h]))
        have HST1 := Lib.hid (show (T (k + 1)).1 = nb by rw [HSS.out])
        have HSTP := Lib.hid (show zb = true → T m = T (k + 1) from fun h => HSP.out (k + 1) (by rw [HSS.out, h]) (by omega))
        rcases hcase with h1 | ⟨h1, h2⟩ | ⟨h1, h2⟩
        · obtain rfl : nb = en := HN1.out (.inl h1)
          cases zb
          · go_region_law (fail)
            all_goals
              go_wp2_with (go_at_call 54; refine HCL.out.mono ?_; rintro e w4 ⟨rfl, hb4⟩)
              go_roundw
              case rel => exact ⟨k + 1, by go_num, by omega, by rw [HST1.out], HGO.out (by first | rfl | trivial), Lib.hid (HFI.out _ hb4)⟩
              case measure => simp [intOf]; omega
          · go_region_law (fail)
            all_goals
              go_wp2_with (go_at_call 54; refine HCL.out.mono ?_; rintro e w4 ⟨rfl, hb4⟩)
              go_ret
              exact ⟨by rw [HE.out, HSTP.out (by first | rfl | trivial), HST1.out]; rfl, HFI.out _ hb4⟩
        · obtain rfl : nb = en := HN1.out (.inr h2)
          cases zb
          · go_region_law (fail)
            all_goals
              go_wp2_with (go_at_call 54; refine HCL.out.mono ?_; rintro e w4 ⟨rfl, hb4⟩)
              go_roundw
              case rel => exact ⟨k + 1, by go_num, by omega, by rw [HST1.out], HGO.out (by first | rfl | trivial), Lib.hid (HFI.out _ hb4)⟩
              case measure => simp [intOf]; omega
          · go_region_law (fail)
            all_goals
              go_wp2_with (go_at_call 54; refine HCL.out.mono ?_; rintro e w4 ⟨rfl, hb4⟩)
              go_ret
              exact ⟨by rw [HE.out, HSTP.out (by first | rfl | trivial), HST1.out]; rfl, HFI.out _ hb4⟩
        · obtain rfl : nb = b := HN2.out (by omega)
          cases zb
          · go_region_law (fail)
            all_goals
              go_wp2_with (go_at_call 54; refine HCL.out.mono ?_; rintro e w4 ⟨rfl, hb4⟩)
              go_roundw
              case rel => exact ⟨k + 1, by go_num, by omega, by rw [HST1.out], HGO.out (by first | rfl | trivial), Lib.hid (HFI.out _ hb4)⟩
              case measure => simp [intOf]; omega
          · go_region_law (fail)
            all_goals
              go_wp2_with (go_at_call 54; refine HCL.out.mono ?_; rintro e w4 ⟨rfl, hb4⟩)
              go_ret
              exact ⟨by rw [HE.out, HSTP.out (by first | rfl | trivial), HST1.out]; rfl, HFI.out _ hb4⟩
      · obtain rfl : k = m := by omega
        go_wp2_with fail
        go_ret
        exact ⟨by rw [HE.out]; rfl, HB.out⟩

set_option maxHeartbeats 2000000 in
set_option maxRecDepth 8000 in
theorem lsI_any (v : Value) (js : List JobD) (m : Int) (w : World) (h : RdJ w v js) :
    Calls Try.prog 22 #[v, .int .i64 m] w fun e w' => e = .returned (.tuple #[.int .i64 (lsN js m), .bool (lsB js m)]) ∧ Below w.heap.size w w' := by
  obtain ⟨i0, hi, hz0, hz1, hz2⟩ := info_parts Try.infoI64
  obtain ⟨va, vc, rfl⟩ := h.shape
  have HM := Lib.hid (areMach_any _ js m w h)
  have HR := Lib.hid h
  have HB := Lib.hid (show lsB js m = (machB js m && decide (js.length ≤ 9)) from rfl)
  have HN := Lib.hid (show lsN js m = if lsB js m = true then spanR js js.length (List.replicate m.toNat 0) else 0 from rfl)
  obtain ⟨q, hq⟩ : ∃ q, machB js m = q := ⟨_, rfl⟩
  have HQ := Lib.hid hq
  rw [hq] at HM HB
  clear hq h
  cases q
  · go_enter Try.func22, Try.ntmps22
    go_wp2_with (go_at_call 50; refine HM.out.mono ?_; rintro e w1 ⟨rfl, hb1⟩)
    go_ret2
    have e : lsB js m = false := HB.out
    exact ⟨by rw [HN.out, e]; rfl, hb1⟩
  · by_cases hn : js.length ≤ 9
    · have hnI : ¬ (9 : Int) < (js.length : Int) := by omega
      have hp := HQ.out
      unfold machB at hp
      rw [Bool.and_eq_true, inB_iff] at hp
      obtain ⟨hjo, hm1, hm8⟩ := hp
      obtain ⟨M, rfl⟩ := Int.eq_ofNat_of_zero_le (show 0 ≤ m by omega)
      have HE := Lib.hid (show lsB js (M : Int) = true by rw [HB.out, decide_eq_true hn]; rfl)
      have HV := Lib.hid (show lsN js (M : Int) = spanR js js.length (List.replicate M 0) by rw [HN.out, HE.out]; rfl)
      have HL := Lib.hid (fun u X (hb : Below w.heap.size w X) (hu : RdI X u (List.replicate M 0)) => leastSpan_any js hjo M (by omega) (by omega) js.length (List.replicate M 0) (.slice va js.length vc) u X (Nat.le_refl _) (HR.out.up hb (Nat.le_refl _)) hu (by simp) (fun k => by
        rw [List.getD_eq_getElem?_getD, List.getElem?_replicate]
        split <;> simp))
      rw [Nat.sub_self] at HL
      have hM1 : 1 ≤ M := by omega
      have hM8 : M ≤ 8 := by omega
      clear hjo hm1 hm8
      go_enter Try.func22, Try.ntmps22
      go_wp2_with (first
        | (go_at_call 50; refine HM.out.mono ?_; rintro e w1 ⟨rfl, hb1⟩)
        | (at_make; refine wpList_make_full _ rfl _ _ 27 rfl w1.heap.size 2 i0 (.int .i64 0) 1 Try.underlying27 hi hz0 hz1 .i64 .i64 M M M rfl rfl rfl rfl (by rw [hz2]; omega) (by simp [maxLen]; omega) (by simp) ?_; intro w2 hown hgrow; have hb2 : Below w.heap.size w w2 := hb1.trans (((Below.refl w1.heap.size w1).grown hgrow (Nat.le_refl _) (by intro k hk; cases hk)).mono hb1.size); have hz : (madeCells (Value.int .i64 0).cells (M * 1)).toList = (List.replicate M (0 : Int)).map I64 := (by rw [List.map_replicate]; show _ = List.replicate M (Value.int .i64 0); simpa [Value.cells] using toList_madeCells_one (Value.int .i64 0) M); rw [hz] at hown)
        | (go_at_call 54; refine (HL.out _ w2 hb2 (slc_of_owns hown)).mono ?_; rintro e w3 ⟨rfl, hb3⟩))
      go_ret2
      exact ⟨by rw [HV.out, HE.out]; rfl, hb2.trans (hb3.mono hb2.size)⟩
    · have hnI : (9 : Int) < (js.length : Int) := by omega
      have HE := Lib.hid (show lsB js m = false by rw [HB.out, decide_eq_false hn]; rfl)
      clear hn
      go_enter Try.func22, Try.ntmps22
      go_wp2_with (go_at_call 50; refine HM.out.mono ?_; rintro e w1 ⟨rfl, hb1⟩)
      go_ret2
      exact ⟨by rw [HN.out, HE.out]; rfl, hb1⟩

end Go.Proofs.Ytfdaifmfecfchaa
