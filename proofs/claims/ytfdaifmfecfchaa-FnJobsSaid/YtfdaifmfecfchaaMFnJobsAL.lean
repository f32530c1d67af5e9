/-
  FnJobs: texts joined: JobDraw, OrdDraw, TourL, DueI, Del, AppL.
-/
import Derived.Maps.AppendAt
import Derived.Deep.RegionLaw
import Derived.Deep.CutRange
import Derived.Lib.AppendZeros
import Derived.Shelf.SlicesE.Delete
import Derived.Test.YtfdaifmfecfchaaMFnJobsAA
import Derived.Test.YtfdaifmfecfchaaMFnJobsAB
import Derived.Test.YtfdaifmfecfchaaMFnJobsAC
import Derived.Test.YtfdaifmfecfchaaMFnJobsAD
import Derived.Test.YtfdaifmfecfchaaMFnJobsAE
import Derived.Test.YtfdaifmfecfchaaMFnJobsAK
namespace Go.Proofs.Ytfdaifmfecfchaa
open Go.RowKit

theorem Try.infoJob8 : (Try.prog.info? 39).map (fun i => (i.zero, i.size, i.bytes)) = some (some (.agg #[.int .i64 0, .int .i64 0, .int .i64 0, .int .i64 0]), 4, 32) := by kernel_rfl
theorem jobsC_snoc8 (js : List JobD) (j : JobD) : jobsC (js ++ [j]) = jobsC js ++ jobCells j := by simp [jobsC]
theorem ownJ_empty8 (w : World) (b : Nat) (hb : b = w.heap.size) : (w.alloc (.cells #[] 39)).ownsRow w.heap.size 39 4 (.slice (some ⟨b, 0, none⟩) 0 0) 0 (jobsC []) := by
  subst hb
  exact World.ownsRow_lit (base := w.heap.size) (e := 39) (size := 4) w #[] 0 (Nat.le_refl _) (by simp [maxLen]) rfl
theorem owns4_shape8 {w : World} {base n : Nat} {v : Value} {vs : List Value} (h : w.ownsRow base 39 4 v n vs) : ∃ a cap, v = .slice a n cap := by
  rcases h.2 with ⟨rfl, e⟩ | ⟨g, cap, cur, rfl, _⟩
  · subst e
    exact ⟨none, 0, rfl⟩
  · exact ⟨_, _, rfl⟩
theorem belowK_grown8 {w w' : World} {base n size : Nat} {e : TypeId} {v : Value} {vs : List Value} (h : w.ownsRow base e size v n vs) (hbase : base ≤ w.heap.size) (hg : w.grownBy w' v.ownBlock) : Below base w w' :=
  ⟨hg.os, hg.tape, hg.output, hg.size, fun k hk => hg.block k (by omega) fun e => by
    have := (h.lt k e.symm).1
    omega⟩

theorem run_app_job {w : World} (t : TypeId) (base : Nat) (v : Value) (n : Nat) (js : List JobD) (hown : w.ownsRow base 39 4 v n (jobsC js))
    (j : JobD) (b : Nat) (hblk : Blk w b 39 #[.int .i64 j.long, .int .i64 j.due, .int .i64 j.weight, .int .i64 j.ready]) (hlen : n ≤ 1048576) (hbase : base ≤ w.heap.size) :
    ∃ a' cap' w', (Builtin.append_ #[25, 25] t #[v, .slice (some ⟨b, 0, none⟩) 1 1]).run Try.prog w = .ok (.slice a' (n + 1) cap') w' ∧ w'.ownsRow base 39 4 (.slice a' (n + 1) cap') (n + 1) (jobsC (js ++ [j])) ∧ Below base w w' := by
  obtain ⟨i0, hi, hz0, hz1, hz2⟩ := info_parts Try.infoJob8
  have hc : ∀ t u, (jobCells j)[t]? = some u → w.cell? ((⟨b, 0, none⟩ : Addr).add t) = some u := by
    intro t u ht
    have h1 : w.heap[b]? = some (.cells #[.int .i64 j.long, .int .i64 j.due, .int .i64 j.weight, .int .i64 j.ready] 39) := hblk
    have h2 : ((⟨b, 0, none⟩ : Addr).add t) = ⟨b, t, none⟩ := by unfold Addr.add; split <;> simp_all
    rw [h2]
    simp only [World.cell?, h1]
    simpa [jobCells, I64] using ht
  obtain ⟨v', w', hr, h2, h3, _, h5⟩ := run_append_own_at (P := Try.prog) w base 25 t 39 i0 (.agg #[.int .i64 0, .int .i64 0, .int .i64 0, .int .i64 0]) 4 32 Try.underlying25 hi hz0 hz1 hz2 rfl (by decide) v n (jobsC js) hown ⟨b, 0, none⟩ 1 1 (jobCells j) rfl hc (by intro y hy; simp only [jobCells, List.mem_cons, List.not_mem_nil, or_false] at hy; rcases hy with rfl | rfl | rfl | rfl <;> rfl) (by unfold maxLen; omega) (by omega) hbase
  obtain ⟨a', cap', rfl⟩ := owns4_shape8 h2
  refine ⟨a', cap', w', hr, ?_, belowK_grown8 hown hbase h3⟩
  rw [jobsC_snoc8]
  exact h2

set_option maxHeartbeats 2000000 in
set_option maxRecDepth 4000 in
theorem l06DrawJobs_any (W0 : World) (v : Value) (bs : List Int) (hR : RdB W0 v bs) (hw : WfB bs) (sb c : Nat) (w : World) (hsb : W0.heap.size ≤ sb) (hb : Below W0.heap.size W0 w) (h : SrcAt w sb v c) (hc : c ≤ 1000) (n : Nat) (hn : n ≤ 64) :
    Calls Try.prog 37 #[.pointer (some ⟨sb, 0, none⟩), .int .i64 n] w fun e w' => ∃ (js : List JobD) (v' : Value), js.length = n ∧ (∀ i, i < n → jobB (js.getD i J0) = true) ∧ e = .returned v' ∧ OwnJ w.heap.size w'.heap.size w' v' js ∧ Kept (· = sb) w w' := by
  have HR := Lib.hid hR
  have HW := Lib.hid hw
  have HB := Lib.hid hb
  have HS := Lib.hid h
  have hsw := h.lt
  clear hR hw hb h
  go_enter Try.func37, Try.ntmps37
  go_wp2_with fail
  go_loopw [1, 5] (fun nv ov wr => ∃ (j : Nat) (js : List JobD) (oa : Option Addr) (oc m : Nat), nv = .int .i64 j ∧ Hid (js.length = m) ∧ m + j = n ∧ ov = .slice oa m oc ∧ Hid (wr.ownsRow w.heap.size 39 4 (.slice oa m oc) m (jobsC js)) ∧ Hid (∀ i, i < m → jobB (js.getD i J0) = true) ∧ Hid (SrcAt wr sb v (c + 8 * m)) ∧ Hid (Kept (· = sb) w wr)) (fun nv _ _ => (intOf nv).toNat)
  case atStart => exact ⟨n, [], _, 0, 0, rfl, Lib.hid rfl, by omega, rfl, Lib.hid (ownJ_empty8 _ _ rfl), Lib.hid (by intro i hi; omega), Lib.hid (HS.out.below ((Below.refl _ _).alloc (Nat.le_refl _) _) hsw), Lib.hid ((Kept.refl _ _).alloc _)⟩
  case round =>
    obtain ⟨j, js, oa, oc, m, rfl, HL, hmj, rfl, HO, HA, HS2, HK⟩ := hrel
    obtain ⟨wo, rfl⟩ : ∃ wo, wo = wr := ⟨wr, rfl⟩
    have hszo := HK.out.size
    have HB2 := Lib.hid (HB.out.trans (HK.out.toBelow HB.out.size (fun k h1 h2 => by omega)))
    by_cases hj : 0 < j
    · have hjI : (0 : Int) < (j : Int) := by omega
      go_upto_region 5 with (go_at_call 38; refine (pick_any W0 v bs HR.out HW.out sb (c + 8 * m) wo hsb HB2.out HS2.out (by omega) 9 (by omega) (by omega)).mono ?_; rintro e w1 ⟨x, hx0, hx1, rfl, hs, hk⟩; have hwx : IntKind.i64.wrap (1 + x) = 1 + x := IntWalk.i64_in _ (by omega))
      refine wp_at fun W hW => ?_
      have hz1 := hk.size
      have HKP := Lib.hid (show Blk W w1.heap.size 39 #[.int .i64 (1 + x), .int .i64 0, .int .i64 0, .int .i64 0] by subst hW; exact Blk.new _ _ _)
      have HKW := Lib.hid (show Kept (· = sb) wo W by subst hW; exact hk.alloc _)
      have HSW := Lib.hid (show SrcAt W sb v (c + 8 * m + 2) by subst hW; exact hs.below ((Below.refl _ _).alloc (Nat.le_refl _) _) hs.lt)
      have HBW := Lib.hid (HB2.out.trans (HKW.out.toBelow HB2.out.size (fun k h1 h2 => by omega)))
      clear hW hs hk hwx
      have hsz1 := HKW.out.size
      have hsb1 : sb < w1.heap.size := by omega
      obtain ⟨p, hp⟩ : ∃ p, p = w1.heap.size := ⟨_, rfl⟩
      rw [← hp] at HKP ⊢
      have hpw : wo.heap.size ≤ p := by rw [hp]; exact hz1
      have hps : p ≠ sb := by omega
      have hpl := HKP.out.lt
      clear hp hsb1
      go_upto_region 6 with (go_at_call 38; refine (pick_any W0 v bs HR.out HW.out sb (c + 8 * m + 2) W hsb HBW.out HSW.out (by omega) 25 (by omega) (by omega)).mono ?_; rintro e w5 ⟨y, hy0, hy1, rfl, hs5, hk5⟩; have HKP5 := HKP.out.kept hk5 hps; have d5 := HKP5.cell 1 rfl; have f5 := HKP5.free 1)
      refine wp_at fun Wa hWa => ?_
      have HKPN5 := Lib.hid (show Blk Wa p 39 #[.int .i64 (1 + x), .int .i64 y, .int .i64 0, .int .i64 0] by subst hWa; simpa using HKP5.set 1 (.int .i64 y))
      have HSN5 := Lib.hid (show SrcAt Wa sb v (c + 8 * m + 4) by subst hWa; exact SrcAt.kept hs5 (Kept.setCell (S := fun b => b = p) (Kept.refl _ w5) (p := ⟨p, 1, none⟩) (.inr rfl) _) (fun e => hps e.symm))
      have HKN5 := Lib.hid (show Kept (· = sb) wo Wa by subst hWa; exact (HKW.out.trans hk5).setCell (.inl hpw) _)
      have HBN5 := Lib.hid (HB2.out.trans (HKN5.out.toBelow HB2.out.size (fun k h1 h2 => by omega)))
      clear hWa d5 f5 HKP5 hk5 hs5
      go_upto_region 7 with (go_at_call 38; refine (pick_any W0 v bs HR.out HW.out sb (c + 8 * m + 4) Wa hsb HBN5.out HSN5.out (by omega) 6 (by omega) (by omega)).mono ?_; rintro e w6 ⟨z, hz0, hz1, rfl, hs6, hk6⟩; have HKP6 := HKPN5.out.kept hk6 hps; have d6 := HKP6.cell 2 rfl; have f6 := HKP6.free 2)
      refine wp_at fun Wb hWb => ?_
      have HKPN6 := Lib.hid (show Blk Wb p 39 #[.int .i64 (1 + x), .int .i64 y, .int .i64 z, .int .i64 0] by subst hWb; simpa using HKP6.set 2 (.int .i64 z))
      have HSN6 := Lib.hid (show SrcAt Wb sb v (c + 8 * m + 6) by subst hWb; exact SrcAt.kept hs6 (Kept.setCell (S := fun b => b = p) (Kept.refl _ w6) (p := ⟨p, 2, none⟩) (.inr rfl) _) (fun e => hps e.symm))
      have HKN6 := Lib.hid (show Kept (· = sb) wo Wb by subst hWb; exact (HKN5.out.trans hk6).setCell (.inl hpw) _)
      have HBN6 := Lib.hid (HB2.out.trans (HKN6.out.toBelow HB2.out.size (fun k h1 h2 => by omega)))
      clear hWb d6 f6 HKP6 hk6 hs6
      go_upto_region 8 with (go_at_call 38; refine (pick_any W0 v bs HR.out HW.out sb (c + 8 * m + 6) Wb hsb HBN6.out HSN6.out (by omega) 12 (by omega) (by omega)).mono ?_; rintro e w7 ⟨u, hu0, hu1, rfl, hs7, hk7⟩; have HKP7 := HKPN6.out.kept hk7 hps; have d7 := HKP7.cell 3 rfl; have f7 := HKP7.free 3)
      refine wp_at fun Wc hWc => ?_
      have HKPN7 := Lib.hid (show Blk Wc p 39 #[.int .i64 (1 + x), .int .i64 y, .int .i64 z, .int .i64 u] by subst hWc; simpa using HKP7.set 3 (.int .i64 u))
      have HSN7 := Lib.hid (show SrcAt Wc sb v (c + 8 * m + 8) by subst hWc; exact SrcAt.kept hs7 (Kept.setCell (S := fun b => b = p) (Kept.refl _ w7) (p := ⟨p, 3, none⟩) (.inr rfl) _) (fun e => hps e.symm))
      have HKN7 := Lib.hid (show Kept (· = sb) wo Wc by subst hWc; exact (HKN6.out.trans hk7).setCell (.inl hpw) _)
      have HBN7 := Lib.hid (HB2.out.trans (HKN7.out.toBelow HB2.out.size (fun k h1 h2 => by omega)))
      clear hWc d7 f7 HKP7 hk7 hs7
      have d0 := HKPN7.out.cell 0 rfl
      have d1 := HKPN7.out.cell 1 rfl
      have d2 := HKPN7.out.cell 2 rfl
      have d3 := HKPN7.out.cell 3 rfl
      have hsz6 := HKN7.out.size
      have HO6 := Lib.hid (ownsK_kept HO.out HKN7.out (fun g hg e => by have := (HO.out.lt g hg).1; omega))
      have HRUN := Lib.hid (run_app_job (w := Wc.alloc (.cells #[.int .i64 (1 + x), .int .i64 y, .int .i64 z, .int .i64 u] 39)) 25 w.heap.size (.slice oa m oc) m js (ownsK_below HO6.out ((Below.refl _ _).alloc (Nat.le_refl _) _) (Nat.le_refl _)) ⟨1 + x, y, z, u⟩ Wc.heap.size (Blk.new _ _ _) (by omega) (by simp; omega))
      obtain ⟨a7, c7, w9, hr7, ho7, hb7⟩ := HRUN.out
      have HR7 := Lib.hid hr7
      clear hr7 HRUN
      go_wp2_with (at_builtin; refine Lib.wpList_append_run _ rfl _ _ 25 25 rfl _ _ rfl rfl _ _ HR7.out ?_)
      have HB7 := Lib.hid (((Below.refl w.heap.size Wc).alloc (by omega) _).trans hb7)
      go_roundw
      case rel => exact ⟨j - 1, js ++ [⟨1 + x, y, z, u⟩], a7, c7, m + 1, by rw [show ((j - 1 : Nat) : Int) = (j : Int) - 1 by omega], Lib.hid (by rw [List.length_append, HL.out]; rfl), by omega, rfl, Lib.hid ho7, Lib.hid (fun i hi => by
        by_cases e : i = m
        · rw [e, List.getD_eq_getElem?_getD, List.getElem?_append_right (by rw [HL.out]; exact Nat.le_refl _), HL.out, Nat.sub_self]
          show jobB ⟨1 + x, y, z, u⟩ = true
          unfold jobB
          simp only [Bool.and_eq_true, inB_iff]
          omega
        · have := HA.out i (by omega)
          rw [List.getD_eq_getElem?_getD] at this ⊢
          rw [List.getElem?_append_left (by rw [HL.out]; omega)]
          exact this), Lib.hid ((HSN7.out.below HB7.out hsw).mono (by omega)), Lib.hid ((HK.out.trans HKN7.out).below HB7.out (Nat.le_refl _))⟩
      case measure => simp [intOf]; omega
    · obtain rfl : j = 0 := by omega
      obtain rfl : m = n := by omega
      go_wp2_with fail
      go_ret
      exact ⟨js, _, HL.out, HA.out, rfl, by rw [← HL.out] at HO ⊢; exact OwnJ.mk HO.out, HK.out⟩

set_option maxHeartbeats 1000000 in
theorem R8Jobs_any (v : Value) (bs : List Int) (w : World) (hR : RdB w v bs) (hw : WfB bs) (n : Nat) (h1 : 1 ≤ n) (hn : n ≤ 12) :
    Calls Try.prog 8 #[v, .int .i64 n] w fun e w' => ∃ (js : List JobD) (v' : Value), js.length = n ∧ areJobsB js = true ∧ e = .returned v' ∧ OwnJ w.heap.size w'.heap.size w' v' js ∧ Below w.heap.size w w' := by
  have HR := Lib.hid hR
  have HW := Lib.hid hw
  have HF := Lib.hid (l00From_any v bs w hR)
  clear hR hw
  go_enter Try.func8, Try.ntmps8
  go_wp2_with fail
  refine HF.out.mono ?_
  rintro e w1 ⟨rfl, hs, hb1⟩
  have HS1 := Lib.hid hs
  have HB1 := Lib.hid hb1
  clear hs hb1 HF
  go_wp2_with fail
  refine (l06DrawJobs_any w v bs HR.out HW.out w.heap.size 0 w1 (Nat.le_refl _) HB1.out HS1.out (by omega) n (by omega)).mono ?_
  rintro e w2 ⟨js, v', hl, ha, rfl, ho, hk⟩
  have hz := HB1.out.size
  have HB2 := Lib.hid (HB1.out.trans (hk.toBelow hz (fun k h1 h2 => by omega)))
  have HO := Lib.hid (ho.wide hz (Nat.le_refl _))
  have HA := Lib.hid (show areJobsB js = true by
    unfold areJobsB
    rw [Bool.and_eq_true, allB_iff, inB_iff]
    exact ⟨by omega, fun i hi => ha i (by omega)⟩)
  have HL := Lib.hid hl
  clear hk ho ha hl
  go_wp2_with fail
  go_ret
  exact ⟨js, v', HL.out, HA.out, rfl, HO.out, HB2.out⟩

end Go.Proofs.Ytfdaifmfecfchaa

namespace Go.Proofs.Ytfdaifmfecfchaa
open Go.RowKit

theorem owns_ptr {w : World} {base e n c : Nat} {a : Option Addr} {vs : List Value} (h : w.ownsRow base e 1 (.slice a n c) n vs) (hn : 0 < n) : ∃ g, a = some ⟨g, 0, none⟩ := by
  rcases h.2 with ⟨e1, e2⟩ | ⟨g, cap, cur, e1, _⟩
  · omega
  · injection e1 with e2 _ _
    exact ⟨g, e2⟩
theorem owns_cell8 {w : World} {base g n cap k : Nat} {now : List Int} (h : w.ownsRow base 2 1 (.slice (some ⟨g, 0, none⟩) n cap) n (now.map I64)) (hk : k < now.length) :
    w.cell? ⟨g, k, none⟩ = some (.int .i64 (now.getD k 0)) := by
  obtain ⟨b, off, e, hb, hc⟩ := (show RdI w (.slice (some ⟨g, 0, none⟩) n cap) now from slc_of_owns h).at hk
  simp only [Option.some.injEq, Addr.mk.injEq, and_true] at e
  obtain ⟨rfl, rfl⟩ := e
  simpa using hc
theorem idxs_set (L : List Nat) (k x : Nat) : idxs (L.set k x) = (idxs L).set k (x : Int) := by unfold idxs; rw [List.map_set]
theorem idxs_get (L : List Nat) {k : Nat} (h : k < L.length) : (idxs L).getD k 0 = ((L.getD k 0 : Nat) : Int) := by
  unfold idxs
  rw [List.getD_eq_getElem?_getD, List.getElem?_map, List.getD_eq_getElem?_getD, List.getElem?_eq_getElem h]
  rfl
/-- One more number, and two that change places. -/
theorem perm_swap {L : List Nat} {i k : Nat} (hp : L.Perm (List.range i)) (hk : k ≤ i) : (((L ++ [i]).set k i).set i ((L ++ [i]).getD k 0)).Perm (List.range (i + 1)) := by
  have hl : L.length = i := by rw [hp.length_eq, List.length_range]
  have h1 : k < (L ++ [i]).length := by simp; omega
  have h2 : i < (L ++ [i]).length := by simp; omega
  have h := List.set_set_perm h1 h2
  have e1 : (L ++ [i])[i] = i := by rw [List.getElem_append_right (by omega)]; simp
  have e2 : (L ++ [i]).getD k 0 = (L ++ [i])[k] := by rw [List.getD_eq_getElem?_getD, List.getElem?_eq_getElem h1]; rfl
  rw [e1] at h
  rw [e2]
  refine h.trans ?_
  rw [List.range_succ]
  exact hp.append_right [i]

set_option maxHeartbeats 2000000 in
set_option maxRecDepth 4000 in
theorem R8Order_any (v : Value) (bs : List Int) (w : World) (hR : RdB w v bs) (hw : WfB bs) (n : Nat) (hn : n ≤ 64) :
    Calls Try.prog 9 #[v, .int .i64 n] w fun e w' => ∃ (L : List Nat) (v' : Value), L.Perm (List.range n) ∧ e = .returned v' ∧ OwnI w.heap.size w'.heap.size w' v' (idxs L) ∧ Below w.heap.size w w' := by
  have HR := Lib.hid hR
  have HW := Lib.hid hw
  have HF := Lib.hid (l00From_any v bs w hR)
  clear hR hw
  go_enter Try.func9, Try.ntmps9
  go_wp2_with fail
  refine HF.out.mono ?_
  rintro e w1 ⟨rfl, hs, hb1⟩
  have HS1 := Lib.hid hs
  have HB1 := Lib.hid hb1
  have hz1 := HB1.out.size
  have hs1 := hs.lt
  clear hs hb1 HF
  go_wp2_with fail
  go_loopw [6, 7] (fun ov iv wr => ∃ (i : Nat) (L : List Nat) (oa : Option Addr) (oc : Nat), iv = .int .i64 i ∧ i ≤ n ∧ ov = .slice oa i oc ∧ Hid (L.Perm (List.range i)) ∧ Hid (wr.ownsRow w1.heap.size 2 1 (.slice oa i oc) i ((idxs L).map I64)) ∧ Hid (SrcAt wr w.heap.size v (2 * i)) ∧ Hid (Below w.heap.size w wr) ∧ w1.heap.size ≤ wr.heap.size) (fun _ iv _ => n + 1 - (intOf iv).toNat)
  case atStart => exact ⟨0, [], _, 0, rfl, Nat.zero_le _, rfl, Lib.hid (List.Perm.refl _), Lib.hid (owns_emptyB _ _ rfl), Lib.hid (HS1.out.below ((Below.refl _ _).alloc (Nat.le_refl _) _) hs1), Lib.hid (HB1.out.alloc hz1 _), by simp⟩
  case round =>
    obtain ⟨i, L, oa, oc, rfl, hi, rfl, HP, HO, HS, HB, hzw⟩ := hrel
    obtain ⟨wo, rfl⟩ : ∃ wo, wo = wr := ⟨wr, rfl⟩
    by_cases hlt : i < n
    · have hltI : (i : Int) < (n : Int) := by omega
      have hadd : IntKind.i64.wrap ((i : Int) + 1) = (i : Int) + 1 := IntWalk.i64_in _ (by omega)
      go_upto_region 7 with (go_at_call 38; refine (pick_any w v bs HR.out HW.out w.heap.size (2 * i) wo (Nat.le_refl _) HB.out HS.out (by omega) ((i : Int) + 1) (by omega) (by omega)).mono ?_; rintro e w2 ⟨x, hx0, hx1, rfl, hs2, hk2⟩)
      obtain ⟨k, rfl⟩ := Int.eq_ofNat_of_zero_le hx0
      have hki : k ≤ i := by omega
      have hz2 := hk2.size
      have HO2 := Lib.hid (ownsK_kept HO.out hk2 (fun g hg e => by have := (HO.out.lt g hg).1; omega))
      have HS2 := Lib.hid hs2
      have HB2 := Lib.hid (HB.out.trans (hk2.toBelow HB.out.size (fun k h1 h2 => by omega)))
      clear hs2 hk2 hx0 hx1
      have HLN := Lib.hid (show (idxs L).length = i by rw [idxs_len, HP.out.length_eq, List.length_range])
      go_upto_region 8 with (at_builtin; refine app_ints rfl _ _ rfl w1.heap.size (.slice oa i oc) i (idxs L) rfl (HO2.out.alloc _) _ [(i : Int)] rfl (slc_one _ _) (i + 1) (idxs (L ++ [i])) (by simp) (by unfold idxs; rw [List.map_append]; rfl) (by omega) (by simp; omega) ?_; intro b3 c3 w3 hown3 hbl3 _ _)
      obtain ⟨g, rfl⟩ := owns_ptr hown3 (by omega)
      have hg1 : w1.heap.size ≤ g := (hown3.lt g rfl).1
      have HB3 := Lib.hid (show Below w1.heap.size w2 w3 from ((Below.refl w1.heap.size w2).alloc (by omega) _).trans hbl3)
      have hz3 := HB3.out.size
      have hll : (L ++ [i]).length = i + 1 := by rw [List.length_append]; have := HLN.out; rw [idxs_len] at this; simp; omega
      have c1 := owns_cell8 hown3 (k := k) (by rw [idxs_len, hll]; omega)
      have c2 := owns_cell8 hown3 (k := i) (by rw [idxs_len, hll]; omega)
      have hLi : (L ++ [i]).getD i 0 = i := by
        have hl : L.length = i := by have := HLN.out; rw [idxs_len] at this; exact this
        rw [List.getD_eq_getElem?_getD, List.getElem?_append_right (by omega), hl, Nat.sub_self]
        rfl
      rw [idxs_get _ (by omega)] at c1 c2
      rw [hLi] at c2
      have f1 := hown3.frozenAt k
      have f2 := hown3.frozenAt i
      have HPM := Lib.hid (perm_swap HP.out hki)
      obtain ⟨x, hx⟩ : ∃ x, x = (L ++ [i]).getD k 0 := ⟨_, rfl⟩
      rw [← hx] at c1 HPM
      have hkI : (k : Int) < (i : Int) + 1 := by omega
      have hiI : (i : Int) < (i : Int) + 1 := by omega
      have HS4 := Lib.hid (show ((w3.setCell ⟨g, k, none⟩ (.int .i64 i)).setCell ⟨g, i, none⟩ (.int .i64 x)).ownsRow w1.heap.size 2 1 (.slice (some ⟨g, 0, none⟩) (i + 1) c3) (i + 1) ((idxs (((L ++ [i]).set k i).set i x)).map I64) by
        rw [idxs_set, idxs_set, List.map_set, List.map_set]
        exact ((hown3.stored k (.int .i64 i)).1.stored i (.int .i64 x)).1)
      have HK4 := Lib.hid (show Kept (· = g) w3 ((w3.setCell ⟨g, k, none⟩ (.int .i64 i)).setCell ⟨g, i, none⟩ (.int .i64 x)) from ((Kept.refl (· = g) w3).setCell (p := ⟨g, k, none⟩) (.inr rfl) _).setCell (p := ⟨g, i, none⟩) (.inr rfl) _)
      have HS5 := Lib.hid ((HS2.out.below HB3.out hs1).kept HK4.out (by omega))
      have HB5 := Lib.hid ((HB2.out.trans (HB3.out.mono hz1)).trans (HK4.out.toBelow (by omega) (fun k h1 h2 => by omega)))
      have hz5 := HK4.out.size
      clear hown3 hbl3
      have hw1 : IntKind.i64.wrap ((i : Int) + 1) = (i : Int) + 1 := hadd
      by_cases hki2 : k = i
      · subst hki2
        obtain rfl : x = k := by rw [hx]; exact hLi
        clear hx hLi c2 f2
        go_wp2_with fail
        go_roundw
        case rel => exact ⟨x + 1, _, _, c3, by go_num, by omega, rfl, HPM, HS4, Lib.hid (HS5.out.mono (by omega)), HB5, by omega⟩
        case measure => simp [intOf]; omega
      · have hki3 : ¬ i = k := fun e => hki2 e.symm
        clear hx hLi
        go_wp2_with fail
        go_roundw
        case rel => exact ⟨i + 1, _, _, c3, by go_num, by omega, rfl, HPM, HS4, Lib.hid (HS5.out.mono (by omega)), HB5, by omega⟩
        case measure => simp [intOf]; omega
    · obtain rfl : i = n := by omega
      go_wp2_with fail
      go_ret
      exact ⟨L, _, HP.out, rfl, (OwnI.mk HO.out).wide hz1 (Nat.le_refl _), HB.out⟩

end Go.Proofs.Ytfdaifmfecfchaa

namespace Go.Proofs.Ytfdaifmfecfchaa
open Go.RowKit

theorem Try.infoBool8 : (Try.prog.info? 4).map (fun i => (i.zero, i.size, i.bytes)) = some (some (.bool false), 1, 1) := by kernel_rfl
def flV (n : Nat) (S : List Nat) : List Value := (List.range n).map fun i => Value.bool (S.contains i)
theorem flV_at {n i : Nat} (S : List Nat) (h : i < n) : (flV n S)[i]? = some (.bool (S.contains i)) := by
  unfold flV
  rw [List.getElem?_map, List.getElem?_range h]
  rfl
theorem flV_len (n : Nat) (S : List Nat) : (flV n S).length = n := by unfold flV; simp
theorem flV_zero (n : Nat) : flV n [] = List.replicate n (.bool false) := by
  unfold flV
  rw [List.eq_replicate_iff]
  refine ⟨by simp, ?_⟩
  intro b hb
  rw [List.mem_map] at hb
  obtain ⟨a, _, rfl⟩ := hb
  rfl
theorem flV_set {n x : Nat} (S : List Nat) (h : x < n) : (flV n S).set x (.bool true) = flV n (S ++ [x]) := by
  refine List.ext_getElem? ?_
  intro d
  rw [List.getElem?_set]
  by_cases hd : d < n
  · rw [flV_at _ hd, flV_at _ hd, flV_len]
    by_cases e : x = d
    · subst e
      rw [if_pos rfl, if_pos h]
      simp
    · rw [if_neg e]
      have : ¬ d = x := fun e2 => e e2.symm
      simp [this]
  · have h1 : (flV n S)[d]? = none := by rw [List.getElem?_eq_none]; rw [flV_len]; omega
    have h2 : (flV n (S ++ [x]))[d]? = none := by rw [List.getElem?_eq_none]; rw [flV_len]; omega
    rw [if_neg (by omega), h1, h2]
theorem perm_fresh {L : List Nat} {n i : Nat} (hp : L.Perm (List.range n)) (hi : i < n) : L.getD i 0 < n ∧ (L.take i).contains (L.getD i 0) = false ∧ L.take (i + 1) = L.take i ++ [L.getD i 0] := by
  have hl : L.length = n := by rw [hp.length_eq, List.length_range]
  have hil : i < L.length := by omega
  have hg : L.getD i 0 = L[i] := by rw [List.getD_eq_getElem?_getD, List.getElem?_eq_getElem hil]; rfl
  have hn : L.Nodup := hp.nodup_iff.2 List.nodup_range
  refine ⟨?_, ?_, ?_⟩
  · rw [hg]; exact List.mem_range.1 (hp.mem_iff.1 (List.getElem_mem _))
  · rw [← Bool.not_eq_true, List.contains_iff_mem]
    intro h
    have h2 := hn
    rw [← List.take_append_drop i L] at h2
    have h3 : L.getD i 0 ∈ L.drop i := by rw [List.drop_eq_getElem_cons hil, hg]; exact List.mem_cons_self ..
    exact (List.nodup_append.1 h2).2.2 _ h _ h3 rfl
  · rw [List.take_add_one, List.getElem?_eq_getElem hil, hg]; rfl

set_option maxHeartbeats 2000000 in
set_option maxRecDepth 4000 in
theorem r8Tour_any (v : Value) (L : List Nat) (n : Nat) (w : World) (h : RdI w v (idxs L)) (hp : L.Perm (List.range n)) (hn : n ≤ 1000) :
    Calls Try.prog 19 #[v, .int .i64 n] w fun e w' => e = .returned (.bool true) ∧ Below w.heap.size w w' := by
  have hl : L.length = n := by rw [hp.length_eq, List.length_range]
  obtain ⟨a, c, rfl⟩ := h.shape
  have hli : (idxs L).length = n := by rw [idxs_len, hl]
  rw [hli] at h ⊢
  obtain ⟨i0, hi, hz0, hz1, hz2⟩ := info_parts Try.infoBool8
  have HR := Lib.hid h
  have HP := Lib.hid hp
  have HL := Lib.hid hl
  clear h hp hl hli
  have hne : ((n : Int) != (n : Int)) = false := by simp
  go_enter Try.func19, Try.ntmps19
  go_upto_region 4 with (at_make; refine wpList_make_full _ rfl _ _ 46 rfl w.heap.size 4 i0 (.bool false) 1 Try.underlying46 hi hz0 hz1 .i64 .i64 n n n rfl rfl rfl rfl (by rw [hz2]; omega) (by simp [maxLen]; omega) (by simp) ?_; intro w2 hown hgrow)
  have hb2 : Below w.heap.size w w2 := (Below.refl _ _).grown hgrow (Nat.le_refl _) (by intro k hk; cases hk)
  have hz : (madeCells (Value.bool false).cells (n * 1)).toList = flV n [] := by
    rw [flV_zero]; simpa [Value.cells] using toList_madeCells_one (Value.bool false) n
  rw [hz] at hown
  obtain ⟨g, hg⟩ : ∃ g, g = w.heap.size := ⟨_, rfl⟩
  rw [← hg] at hown ⊢
  have hgl : g < w2.heap.size := (owns_lt hown (k := g) rfl).2
  have HO2 := Lib.hid hown
  have HB2 := Lib.hid hb2
  have HG := Lib.hid (show w.heap.size ≤ g by omega)
  clear hown hb2 hz hgrow hg hne
  go_wp2_with fail
  go_loopw [6] (fun iv wr => ∃ k : Nat, iv = .int .i64 k ∧ k ≤ n ∧ Hid (wr.ownsRow g 4 1 (.slice (some ⟨g, 0, none⟩) n n) n (flV n (L.take k))) ∧ Hid (Kept (· = g) w2 wr)) (fun iv _ => n + 1 - (intOf iv).toNat)
  case atStart => exact ⟨0, rfl, Nat.zero_le _, HO2, Lib.hid (Kept.refl _ _)⟩
  case round =>
    obtain ⟨k, rfl, hk, HO, HK⟩ := hrel
    obtain ⟨wo, rfl⟩ : ∃ wo, wo = wr := ⟨wr, rfl⟩
    have HB := Lib.hid (HB2.out.trans (HK.out.toBelow HB2.out.size (fun k h1 h2 => by have := HG.out; omega)))
    by_cases hlt : k < n
    · have hltI : (k : Int) < (n : Int) := by omega
      obtain ⟨hx1, hx2, hx3⟩ := perm_fresh HP.out hlt
      have HST0 := Lib.hid (HO.out.stored (L.getD k 0) (.bool true)).1
      rw [flV_set _ hx1, ← hx3] at HST0
      have HKS := Lib.hid (show Kept (· = g) w2 (wo.setCell ⟨g, L.getD k 0, none⟩ (.bool true)) from HK.out.setCell (.inr rfl) _)
      obtain ⟨ub, uo, rfl, _, hx⟩ := (HR.out.up HB.out (Nat.le_refl _)).at (i := k) (by rw [idxs_len, HL.out]; exact hlt)
      rw [idxs_get _ (by rw [HL.out]; exact hlt)] at hx
      have hd := HO.out.cellAt (L.getD k 0) (by omega)
      have hf := HO.out.frozenAt (L.getD k 0)
      rw [flV_at _ hx1, hx2] at hd
      obtain ⟨x, hxe⟩ : ∃ x, x = L.getD k 0 := ⟨_, rfl⟩
      rw [← hxe] at hx hd hf hx1 HST0 HKS
      have hxI : (x : Int) < (n : Int) := by omega
      have hxN : ¬ (n : Int) ≤ (x : Int) := by omega
      have hx0 : ¬ (x : Int) < 0 := by omega
      clear hxe hx2 hx3
      go_wp2_with fail
      go_roundw
      case rel => exact ⟨k + 1, by go_num, by omega, HST0, HKS⟩
      case measure => simp [intOf]; omega
    · obtain rfl : k = n := by omega
      go_wp2_with fail
      go_ret
      exact ⟨rfl, HB.out⟩

end Go.Proofs.Ytfdaifmfecfchaa

namespace Go.Proofs.Ytfdaifmfecfchaa
open Go.RowKit

def dueL (js : List JobD) : List Int := if areJobsB js = true then idxs (ordL (dueK js) js.length) else []
set_option maxHeartbeats 1000000 in
theorem dueI_any (v : Value) (js : List JobD) (w : World) (h : RdJ w v js) :
    Calls Try.prog 15 #[v] w fun e w' => ∃ u, e = .returned (.tuple #[u, .bool (areJobsB js)]) ∧ OwnI w.heap.size w'.heap.size w' u (dueL js) ∧ Below w.heap.size w w' := by
  have HA := Lib.hid (AreJobs_any v js w h)
  obtain ⟨q, hq⟩ : ∃ q, areJobsB js = q := ⟨_, rfl⟩
  have HQ := Lib.hid hq
  rw [hq] at HA ⊢
  clear hq
  cases q
  · clear h
    go_enter Try.func15, Try.ntmps15
    go_wp2_with (go_at_call 41; refine HA.out.mono ?_; rintro e w1 ⟨rfl, hb1⟩)
    go_ret2
    exact ⟨_, rfl, by rw [show dueL js = [] by unfold dueL; rw [HQ.out]; rfl]; exact ⟨World.ownsRow_nil _ _ _ _, by intro g hg; cases hg⟩, hb1⟩
  · have hn : 1 ≤ js.length ∧ js.length ≤ 12 := by
      have := HQ.out
      unfold areJobsB at this
      rw [Bool.and_eq_true, inB_iff] at this
      omega
    have HD := Lib.hid (fun X (hb : Below w.heap.size w X) => dueOrder_any js v X (h.up hb (Nat.le_refl _)) hn.1 hn.2)
    clear h hn
    go_enter Try.func15, Try.ntmps15
    go_wp2_with (first | (go_at_call 41; refine HA.out.mono ?_; rintro e w1 ⟨rfl, hb1⟩) | (go_at_call 45; refine (HD.out w1 hb1).mono ?_; rintro e w2 ⟨u, rfl, ho, hb2⟩))
    go_ret2
    exact ⟨_, rfl, by rw [show dueL js = idxs (ordL (dueK js) js.length) by unfold dueL; rw [HQ.out]; rfl]; exact ho.wide hb1.size (Nat.le_refl _), hb1.trans (hb2.mono hb1.size)⟩

end Go.Proofs.Ytfdaifmfecfchaa

namespace Go.Proofs.Ytfdaifmfecfchaa
open Go.RowKit Go.Sort

def Try.delRen : Go.Shelf.Ren := ⟨fun | 45 => 46 | n => n, fun | 23 => 2 | 22 => 27 | 3 => 3 | 4 => 4 | 0 => 0 | n => n, fun | n => n⟩
theorem Try.laysDel : Go.Proofs.SlLaysE.n45 Try.prog Try.delRen := {
  mixed := by kernel_rfl
  f45 := ⟨Try.f46.name, by decide, Try.func46.trans (congrArg some (by kernel_rfl))⟩
  t0 := Try.underlying0
  a0 := Try.isAgg0
  z0 := Try.sizeOf0
  v0 := Try.zeroValue0
  t3 := Try.underlying3
  a3 := Try.isAgg3
  z3 := Try.sizeOf3
  v3 := Try.zeroValue3
  t4 := Try.underlying4
  a4 := Try.isAgg4
  z4 := Try.sizeOf4
  v4 := Try.zeroValue4
  t22 := Try.underlying27
  a22 := Try.isAgg27
  z22 := Try.sizeOf27
  v22 := Try.zeroValue27
  a23 := Try.isAgg2
  z23 := Try.sizeOf2 }

/-- One element is taken out of a row that the call owns. -/
theorem delete_any (lo g cap m : Nat) (xs : List Int) (w : World) (ho : w.ownsRow lo 2 1 (.slice (some ⟨g, 0, none⟩) xs.length cap) xs.length (xs.map I64)) (hm : m < xs.length) (hlo : lo ≤ w.heap.size) :
    Calls Try.prog 46 #[.slice (some ⟨g, 0, none⟩) xs.length cap, .int .i64 m, .int .i64 ((m + 1 : Nat) : Int)] w fun e w' => e = .returned (.slice (some ⟨g, 0, none⟩) (xs.length - 1) cap) ∧ w'.ownsRow lo 2 1 (.slice (some ⟨g, 0, none⟩) (xs.length - 1) cap) (xs.length - 1) ((xs.eraseIdx m).map I64) ∧ Kept (· = g) w w' := by
  obtain ⟨i0, hi, hz0, hz1, hz2⟩ := info_parts Try.infoI64
  obtain ⟨g', cap', e, hbg, hgl, hnc, hcm, _, hH⟩ := Lib.holds_of_ownsRow (enc := I64) ho (by intro e; cases e)
  injection e with e1 _ e2
  injection e1 with e1
  injection e1 with e1
  subst e1; subst e2
  have hs : (xs.toArray).size = xs.length := by simp
  have hr := AnyE.slices_Delete Try.laysDel I64 (fun _ => rfl) 0 Try.zeroValue2 i0 hi hz1 g 0 cap m (m + 1) xs.toArray w hH (by rw [hs]; exact hnc) (by simp only [maxLen] at hcm; omega) (by omega) (by rw [hs]; omega)
  rw [hs] at hr
  refine hr.mono ?_
  rintro e w' ⟨rfl, q, rfl⟩
  have e3 : xs.length - (m + 1 - m) = xs.length - 1 := by omega
  have e4 : m + 1 - m = 1 := by omega
  rw [e3, e4]
  have hlen : (xs.take m ++ xs.drop (m + 1) ++ List.replicate 1 (0 : Int)).length = xs.length := by simp; omega
  have hx := Lib.ownsRow_putRow (q := q) (k := xs.length - 1) ho hlen (by omega)
  have e5 : (xs.take m ++ xs.drop (m + 1) ++ List.replicate 1 (0 : Int)).take (xs.length - 1) = xs.eraseIdx m := by
    rw [← List.eraseIdx_eq_take_drop_succ, List.take_append_of_le_length (by rw [List.length_eraseIdx, if_pos hm]; exact Nat.le_refl _), List.take_of_length_le (by rw [List.length_eraseIdx, if_pos hm]; exact Nat.le_refl _)]
  rw [e5] at hx
  refine ⟨rfl, hx, ?_⟩
  refine ⟨rfl, rfl, rfl, by simp [putRow, mapBlock, Sort.ahead], fun k hk hn => ?_⟩
  simp [putRow, mapBlock, Sort.ahead, Array.getElem?_modify, Ne.symm hn]

end Go.Proofs.Ytfdaifmfecfchaa

namespace Go.Proofs.Ytfdaifmfecfchaa
open Go.RowKit

theorem wp_app_intsL {w : World} {o : Oper} {a : Act} {K : Act → World → Prop} {Q : Exit → Act → World → Prop} (s x : Operand)
    (ho : o.op = .call { callee := .builtin .append, args := #[s, x], argTypes := #[27, 27] })
    (base : Nat) (v : Value) (n : Nat) (xs : List Int) (hs : a.eval s = v) (hown : w.ownsRow base 2 1 v n (xs.map I64))
    (sv : Value) (news : List Int) (hx : a.eval x = sv) (hsv : Slc w sv (news.map I64)) (m : Nat) (ys : List Int) (hm : m = n + news.length) (hys : ys = xs ++ news) (hlen : m ≤ 17592186044416) (hbase : base ≤ w.heap.size)
    (h : ∀ a' cap' w', w'.ownsRow base 2 1 (.slice a' m cap') m (ys.map I64) → Below base w w' → w.grownBy w' v.ownBlock → ((Value.slice a' m cap').ownBlock = v.ownBlock ∨ (Value.slice a' m cap').ownBlock = some w.heap.size) → K (a.put o.dst (.slice a' m cap')) w') :
    o.wp Try.prog a w K Q := by
  obtain ⟨i0, hi, hz0, hz1, hz2⟩ := info_parts Try.infoI64
  subst hm hys
  have hk : ∀ v' w', w'.ownsRow base 2 1 v' (n + news.length) (xs.map I64 ++ news.map I64) → w.grownBy w' v.ownBlock → (v'.ownBlock = v.ownBlock ∨ v'.ownBlock = some w.heap.size) → K (a.put o.dst v') w' := by
    intro v' w' h1 h2 h3
    have h1' : w'.ownsRow base 2 1 v' (n + news.length) ((xs ++ news).map I64) := by simpa using h1
    obtain ⟨a', cap', rfl⟩ := owns_shape h1'
    exact h a' cap' w' h1' (below_grown hown hbase h2) h2 h3
  rcases hsv with ⟨rfl, hnil⟩ | ⟨ad, cap, rfl, hcl, hcm, hc⟩
  · have hn : news = [] := by simpa using hnil
    subst hn
    have hrun := run_append_owned_none (P := Try.prog) (w := w) base 27 o.type 2 i0 1 Try.underlying27 hi v n (xs.map I64) hown
    unfold Oper.wp
    simp [execOp, ho, resolve, invoke, builtin, hs, hx, hrun, Result.andThen]
    exact hk v w (by simpa using hown) (World.grownBy.refl _ _) (.inl rfl)
  · obtain ⟨v', w', hr, h2, h3, _, h5⟩ := run_append_own_at (P := Try.prog) w base 27 o.type 2 i0 (.int .i64 0) 1 8 Try.underlying27 hi hz0 hz1 hz2 rfl (by decide) v n (xs.map I64) hown ad (news.map I64).length cap (news.map I64) (by simp) hc (i64_one news) (by simp [maxLen]; omega) (by simp; omega) hbase
    unfold Oper.wp execOp
    simp only [ho, resolve, invoke, builtin, Sem.run_bind, Sem.run_pure, Result.andThen_ok, List.map_toArray, List.map_cons, List.map_nil, hs, hx, hr]
    exact hk _ _ (by simpa using h2) h3 h5

theorem app_intsL {w : World} {ops : Array Oper} {rest : List Oper} {o : Oper} {a : Act} {Q : Exit → Act → World → Prop} (hgd : o.guard = none) (s x : Operand)
    (ho : o.op = .call { callee := .builtin .append, args := #[s, x], argTypes := #[27, 27] })
    (base : Nat) (v : Value) (n : Nat) (xs : List Int) (hs : a.eval s = v) (hown : w.ownsRow base 2 1 v n (xs.map I64))
    (sv : Value) (news : List Int) (hx : a.eval x = sv) (hsv : Slc w sv (news.map I64)) (m : Nat) (ys : List Int) (hm : m = n + news.length) (hys : ys = xs ++ news) (hlen : m ≤ 17592186044416) (hbase : base ≤ w.heap.size)
    (h : ∀ a' cap' w', w'.ownsRow base 2 1 (.slice a' m cap') m (ys.map I64) → Below base w w' → w.grownBy w' v.ownBlock → ((Value.slice a' m cap').ownBlock = v.ownBlock ∨ (Value.slice a' m cap').ownBlock = some w.heap.size) → wpList Try.prog ops Q rest (a.put o.dst (.slice a' m cap')) w') :
    wpList Try.prog ops Q (o :: rest) a w := by
  obtain ⟨i0, hi, hz0, hz1, hz2⟩ := info_parts Try.infoI64
  subst hm hys
  have hk : ∀ v' w', w'.ownsRow base 2 1 v' (n + news.length) (xs.map I64 ++ news.map I64) → w.grownBy w' v.ownBlock → (v'.ownBlock = v.ownBlock ∨ v'.ownBlock = some w.heap.size) → wpList Try.prog ops Q rest (a.put o.dst v') w' := by
    intro v' w' h1 h2 h3
    have h1' : w'.ownsRow base 2 1 v' (n + news.length) ((xs ++ news).map I64) := by simpa using h1
    obtain ⟨a', cap', rfl⟩ := owns_shape h1'
    exact h a' cap' w' h1' (below_grown hown hbase h2) h2 h3
  rcases hsv with ⟨rfl, hnil⟩ | ⟨ad, cap, rfl, hcl, hcm, hc⟩
  · have hn : news = [] := by simpa using hnil
    subst hn
    refine wpList_append_own_none hgd s x 27 ho base 2 i0 1 Try.underlying27 hi v n (xs.map I64) hs hown hx ?_
    exact hk v w (by simpa using hown) (World.grownBy.refl _ _) (.inl rfl)
  · refine wpList_append_own_at w hgd s x 27 ho base 2 i0 (.int .i64 0) 1 8 Try.underlying27 hi hz0 hz1 hz2 rfl (by decide) v n (xs.map I64) hs hown ad (news.map I64).length cap (news.map I64) hx (by simp) hc (i64_one news) (by simp [maxLen]; omega) (by simp; omega) hbase ?_
    intro v' w' h2 h3 _ h5
    exact hk v' w' (by simpa using h2) h3 h5

theorem step_app_intsL {w : World} {ops : Array Oper} {o : Oper} {a : Act} {K : Act → World → Prop} {Q : Exit → Act → World → Prop} {E : Prop} (hgd : o.guard = none) (s x : Operand)
    (ho : o.op = .call { callee := .builtin .append, args := #[s, x], argTypes := #[27, 27] })
    (base : Nat) (v : Value) (n : Nat) (xs : List Int) (hs : a.eval s = v) (hown : w.ownsRow base 2 1 v n (xs.map I64))
    (sv : Value) (news : List Int) (hx : a.eval x = sv) (hsv : Slc w sv (news.map I64)) (m : Nat) (ys : List Int) (hm : m = n + news.length) (hys : ys = xs ++ news) (hlen : m ≤ 17592186044416) (hbase : base ≤ w.heap.size)
    (h : ∀ a' cap' w', w'.ownsRow base 2 1 (.slice a' m cap') m (ys.map I64) → Below base w w' → w.grownBy w' v.ownBlock → ((Value.slice a' m cap').ownBlock = v.ownBlock ∨ (Value.slice a' m cap').ownBlock = some w.heap.size) → K (a.put o.dst (.slice a' m cap')) w') :
    if Region.wanted o (yielded ops a.tmps) = true then Oper.wp Try.prog o a w K Q else E := by
  have hw : Region.wanted o (yielded ops a.tmps) = true := by simp [Region.wanted, hgd]
  rw [if_pos hw]
  exact wp_app_intsL s x ho base v n xs hs hown sv news hx hsv m ys hm hys hlen hbase h

theorem blkI_newB (w : World) (t : TypeId) (cs : Array Value) (b : Nat) (hb : b = w.heap.size) : Blk (w.alloc (.cells cs t)) b t cs := by subst hb; exact Blk.new w t cs
theorem blkI_grown {w w' : World} {b : Nat} {t : TypeId} {cs : Array Value} {row : Option Nat} (h : Blk w b t cs) (hg : w.grownBy w' row) (hne : row ≠ some b) : Blk w' b t cs :=
  (hg.block b h.lt (fun e => hne e.symm)).trans h
theorem OwnI.blk {lo hi : Nat} {w : World} {v : Value} {xs : List Int} (h : OwnI lo hi w v xs) {b : Nat} (hb : v.ownBlock = some b) : lo ≤ b ∧ b < hi := ⟨(owns_lt h.1 hb).1, h.2 b hb⟩

/-- Another list stays its own where one has grown. -/
theorem ownI_grown {lo hi : Nat} {w w' : World} {v u : Value} {xs : List Int} (h : OwnI lo hi w v xs) (hg : w.grownBy w' u.ownBlock) (hn : ∀ g, v.ownBlock = some g → u.ownBlock ≠ some g) : OwnI lo hi w' v xs := by
  refine ⟨owns_kept (S := fun k => u.ownBlock = some k) h.1 ⟨hg.os, hg.tape, hg.output, hg.size, fun k hk hs => hg.block k hk fun e => hs e.symm⟩ hn, h.2⟩
end Go.Proofs.Ytfdaifmfecfchaa
