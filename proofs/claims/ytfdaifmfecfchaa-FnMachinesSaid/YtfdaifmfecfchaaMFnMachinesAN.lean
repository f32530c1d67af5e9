/-
  FnMachines: texts joined: Src, R8, OrdDraw, TwoI.
-/
import Derived.Deep.RegionLaw
import Derived.Deep.CutRange
import Derived.Lib.AppendZeros
import Derived.BigQuiet
import Derived.Lib.MinMax
import Derived.Test.YtfdaifmfecfchaaMFnMachinesAB
import Derived.Test.YtfdaifmfecfchaaMFnMachinesAD
import Derived.Test.YtfdaifmfecfchaaMFnMachinesAE
import Derived.Test.YtfdaifmfecfchaaMFnMachinesAG
import Derived.Test.YtfdaifmfecfchaaMFnMachinesAM
namespace Go.Proofs.Ytfdaifmfecfchaa
open Go.RowKit Go.ChangeShapes

/-- The source in block sb: it has been read at most c times. -/
def SrcAt (w : World) (sb : Nat) (v : Value) (c : Nat) : Prop := ∃ a S : Nat, a ≤ c ∧ S < 18446744073709551616 ∧ Blk w sb 100 #[v, .int .i64 a, .int .u64 S]

theorem SrcAt.below {w w' : World} {sb : Nat} {v : Value} {c B : Nat} (h : SrcAt w sb v c) (hb : Below B w w') (hB : sb < B) : SrcAt w' sb v c := by
  obtain ⟨a, S, h1, h2, h3⟩ := h; exact ⟨a, S, h1, h2, h3.below hb hB⟩
theorem SrcAt.lt {w : World} {sb : Nat} {v : Value} {c : Nat} (h : SrcAt w sb v c) : sb < w.heap.size := by obtain ⟨a, S, h1, h2, h3⟩ := h; exact h3.lt
theorem SrcAt.mono {w : World} {sb : Nat} {v : Value} {c d : Nat} (h : SrcAt w sb v c) (hc : c ≤ d) : SrcAt w sb v d := by obtain ⟨a, S, h1, h2, h3⟩ := h; exact ⟨a, S, by omega, h2, h3⟩
theorem SrcAt.kept {S : Nat → Prop} {w w' : World} {sb : Nat} {v : Value} {c : Nat} (h : SrcAt w sb v c) (hk : Kept S w w') (hs : ¬ S sb) : SrcAt w' sb v c := by obtain ⟨a, S, h1, h2, h3⟩ := h; exact ⟨a, S, h1, h2, h3.kept hk hs⟩

/-- A draw: the answer lies in its bounds. -/
def DrawE (sb : Nat) (v : Value) (c : Nat) (n : Int) (w : World) (e : Ending) (w' : World) : Prop :=
  ∃ x : Int, 0 ≤ x ∧ x < n ∧ e = .returned (.int .i64 x) ∧ SrcAt w' sb v c ∧ Kept (· = sb) w w'

theorem shr40 (S : Nat) (h : S < 18446744073709551616) : ∃ x : Nat, x < 256 ∧ bits .and .u64 ((S : Int) / 1099511627776) 255 = (x : Int) := by
  refine ⟨(S >>> 40) &&& 255, ?_, ?_⟩
  · rw [show (255 : Nat) = 2 ^ 8 - 1 from rfl, Nat.and_two_pow_sub_one_eq_mod]; omega
  · have a1 : ((S : Int) / (1099511627776 : Int)) = ((S >>> 40 : Nat) : Int) := by rw [Nat.shiftRight_eq_div_pow]; rfl
    have l1 : S >>> 40 < 18446744073709551616 := Nat.lt_of_le_of_lt (Nat.shiftRight_le S 40) h
    rw [a1, show (255 : Int) = ((255 : Nat) : Int) from rfl, and64 _ _ l1 (by decide)]


theorem src_set {w : World} {sb : Nat} {v : Value} {a a' S : Nat} {e : Int} (h : Blk w sb 100 #[v, .int .i64 a, .int .u64 S]) :
    ∃ T : Nat, T < 18446744073709551616 ∧ Blk ((w.setCell ⟨sb, 1, none⟩ (.int .i64 a')).setCell ⟨sb, 2, none⟩ (.int .u64 (IntKind.u64.wrap e))) sb 100 #[v, .int .i64 a', .int .u64 T] := by
  have hw := bounds_u64 (wf_wrap .u64 e)
  refine ⟨(IntKind.u64.wrap e).toNat, by omega, ?_⟩
  have h1 := (h.set 1 (.int .i64 a')).set 2 (.int .u64 (IntKind.u64.wrap e))
  have e1 : (((IntKind.u64.wrap e).toNat : Nat) : Int) = IntKind.u64.wrap e := by omega
  rw [e1]
  simpa using h1

set_option maxHeartbeats 1000000 in
set_option maxRecDepth 4000 in
theorem next_any (W0 : World) (v : Value) (xs : List Int) (hR : RdB W0 v xs) (hw : WfB xs) (sb c : Nat) (w : World) (hb : Below W0.heap.size W0 w) (h : SrcAt w sb v c) (hc : c ≤ 1000000) :
    Calls Try.prog 75 #[.pointer (some ⟨sb, 0, none⟩)] w (DrawE sb v (c + 1) 256 w) := by
  obtain ⟨a, S, ha, hS, hk⟩ := h
  obtain ⟨ad, cap, rfl⟩ := hR.shape
  have hlen := hR.len
  unfold maxLen at hlen
  have d0 : w.cell? ⟨sb, 0, none⟩ = some (.slice ad xs.length cap) := hk.cell 0 rfl
  have d1 : w.cell? ⟨sb, 1, none⟩ = some (.int .i64 a) := hk.cell 1 rfl
  have d2 : w.cell? ⟨sb, 2, none⟩ = some (.int .u64 S) := hk.cell 2 rfl
  have f1 := hk.free 1
  have f2 := hk.free 2
  have HK := Lib.hid hk
  have HR := Lib.hid (hR.up hb (Nat.le_refl _))
  have HS := Lib.hid hS
  clear hR hk hb hS
  by_cases hl : a < xs.length
  · obtain ⟨b, off, rfl, _, hcell⟩ := HR.out.at hl
    obtain ⟨hx0, hx1⟩ := hw.at hl
    obtain ⟨x, hx⟩ : ∃ x, x = xs.getD a 0 := ⟨_, rfl⟩
    rw [← hx] at hcell hx0 hx1
    clear hx hw
    have k1 : (a : Int) < (xs.length : Int) := by omega
    have k2 : (a : Int) + 1 ≤ (xs.length : Int) := by omega
    go_enter Try.func75, Try.ntmps75
    go_wp2_with fail
    go_quiet (fail)
    go_wp2_with fail
    go_quiet (fail)
    go_upto_region 6 with fail
    refine wp_at fun W hW => ?_
    have HW : Hid (∃ T : Nat, T < 18446744073709551616 ∧ Blk W sb 100 #[.slice (some ⟨b, off, none⟩) xs.length cap, .int .i64 ((a + 1 : Nat) : Int), .int .u64 T]) := by subst hW; exact src_set (w := w.drewN _) HK.out
    have HKP := Lib.hid (show Kept (· = sb) w W by subst hW; exact (((Kept.refl (· = sb) w).drewN _).setCell (.inr rfl) _).setCell (.inr rfl) _)
    clear hW d0 d1 d2 f1 f2 hcell
    obtain ⟨T, hT, hB⟩ := HW.out
    have d0 : W.cell? ⟨sb, 0, none⟩ = some (.slice (some ⟨b, off, none⟩) xs.length cap) := hB.cell 0 rfl
    have d1 : W.cell? ⟨sb, 1, none⟩ = some (.int .i64 ((a + 1 : Nat) : Int)) := hB.cell 1 rfl
    have HT := Lib.hid hT
    have HB := Lib.hid hB
    have k3 : ((a + 1 : Nat) : Int) ≤ (xs.length : Int) := by omega
    clear hT hB
    go_quiet (fail)
    go_wp2_with fail
    go_ret
    exact ⟨x, hx0, by omega, rfl, ⟨a + 1, T, by omega, HT.out, HB.out⟩, HKP.out.drewN _⟩
  · have k1 : ¬ (a : Int) < (xs.length : Int) := by omega
    have k2 : (xs.length : Int) ≤ (a : Int) := by omega
    clear hl
    go_enter Try.func75, Try.ntmps75
    go_wp2_with fail
    go_quiet (fail)
    go_upto_region 6 with fail
    refine wp_at fun W hW => ?_
    have HW : Hid (∃ T : Nat, T < 18446744073709551616 ∧ Blk W sb 100 #[.slice ad xs.length cap, .int .i64 ((a + 1 : Nat) : Int), .int .u64 T]) := by subst hW; exact src_set (w := w.drewN _) HK.out
    have HKP := Lib.hid (show Kept (· = sb) w W by subst hW; exact (((Kept.refl (· = sb) w).drewN _).setCell (.inr rfl) _).setCell (.inr rfl) _)
    clear hW d0 d1 d2 f1 f2
    obtain ⟨T, hT, hB⟩ := HW.out
    have d0 : W.cell? ⟨sb, 0, none⟩ = some (.slice ad xs.length cap) := hB.cell 0 rfl
    have d1 : W.cell? ⟨sb, 1, none⟩ = some (.int .i64 ((a + 1 : Nat) : Int)) := hB.cell 1 rfl
    have d2 : W.cell? ⟨sb, 2, none⟩ = some (.int .u64 T) := hB.cell 2 rfl
    obtain ⟨x, hx1, hx2⟩ := shr40 T hT
    have HT := Lib.hid hT
    have HB := Lib.hid hB
    have k3 : (xs.length : Int) < ((a + 1 : Nat) : Int) := by omega
    clear hT hB
    go_quiet (fail)
    go_wp2_with fail
    go_ret
    exact ⟨x, by omega, by omega, rfl, ⟨a + 1, T, by omega, HT.out, HB.out⟩, HKP.out.drewN _⟩

set_option maxHeartbeats 1000000 in
theorem pick_any (W0 : World) (v : Value) (xs : List Int) (hR : RdB W0 v xs) (hw : WfB xs) (sb c : Nat) (w : World) (hsb : W0.heap.size ≤ sb) (hb : Below W0.heap.size W0 w) (h : SrcAt w sb v c) (hc : c ≤ 999990) (n : Int) (h1 : 1 ≤ n) (h2 : n ≤ 65536) :
    Calls Try.prog 38 #[.pointer (some ⟨sb, 0, none⟩), .int .i64 n] w (DrawE sb v (c + 2) n w) := by
  have HR := Lib.hid hR
  have HW := Lib.hid hw
  have HB := Lib.hid hb
  have HS := Lib.hid h
  clear hR hw hb h
  by_cases hn : n ≤ 1
  · go_enter Try.func38, Try.ntmps38
    go_wp2_with fail
    go_ret
    exact ⟨0, by omega, by omega, rfl, HS.out.mono (by omega), Kept.refl _ _⟩
  by_cases hm : n ≤ 200
  · go_enter Try.func38, Try.ntmps38
    go_wp2_with fail
    refine (next_any W0 v xs HR.out HW.out sb c w HB.out HS.out (by omega)).mono ?_
    rintro e w1 ⟨x, hx0, hx1, rfl, hs, hk⟩
    have HS1 := Lib.hid hs
    have HK1 := Lib.hid hk
    clear hs hk
    go_wp2_with fail
    go_ret
    exact ⟨x % n, Int.emod_nonneg _ (by omega), Int.emod_lt_of_pos _ (by omega), rfl, HS1.out.mono (by omega), HK1.out⟩
  · go_enter Try.func38, Try.ntmps38
    go_wp2_with fail
    refine (next_any W0 v xs HR.out HW.out sb c w HB.out HS.out (by omega)).mono ?_
    rintro e w1 ⟨x, hx0, hx1, rfl, hs, hk⟩
    have HS1 := Lib.hid hs
    have HK1 := Lib.hid hk
    have HB1 := Lib.hid (HB.out.trans (hk.toBelow HB.out.size (by intro k h1 h2; omega)))
    clear hs hk
    go_wp2_with fail
    refine (next_any W0 v xs HR.out HW.out sb (c + 1) w1 HB1.out HS1.out (by omega)).mono ?_
    rintro e w2 ⟨y, hy0, hy1, rfl, hs, hk⟩
    have HS2 := Lib.hid hs
    have HK2 := Lib.hid hk
    clear hs hk
    go_wp2_with fail
    go_ret
    exact ⟨(x * 256 + y) % n, Int.emod_nonneg _ (by omega), Int.emod_lt_of_pos _ (by omega), rfl, HS2.out.mono (by omega), HK1.out.trans HK2.out⟩

set_option maxHeartbeats 400000 in
theorem l00From_any (v : Value) (xs : List Int) (w : World) (hR : RdB w v xs) :
    Calls Try.prog 36 #[v] w fun e w' => e = .returned (.pointer (some ⟨w.heap.size, 0, none⟩)) ∧ SrcAt w' w.heap.size v 0 ∧ Below w.heap.size w w' := by
  obtain ⟨ad, cap, rfl⟩ := hR.shape
  clear hR
  go_enter Try.func36, Try.ntmps36
  go_wp2_with fail
  go_ret
  exact ⟨rfl, ⟨0, 0, Nat.le_refl _, by decide, Blk.new _ _ _⟩, by (repeat' first | exact Below.refl _ _ | assumption | refine Below.alloc ?_ ?_ _ | refine Below.setCell ?_ ?_ _ | refine Below.drew ?_ | (simp; done) | (simp; omega))⟩

end Go.Proofs.Ytfdaifmfecfchaa

namespace Go.Proofs.Ytfdaifmfecfchaa
open Go.RowKit

/-! ### the laws' choice of a number -/
def isLong8 (a b : List Int) : Bool := decide (48 < (a.length : Int)) || decide (48 < (b.length : Int))
theorem r8Long_any (v v' : Value) (xs ys : List Int) (w : World) (h : RdB w v xs) (h' : RdB w v' ys) :
    Calls Try.prog 6 #[v, v'] w fun e w' => e = .returned (.bool (isLong8 xs ys)) ∧ w = w' := by
  obtain ⟨a, c, rfl⟩ := h.shape
  obtain ⟨a', c', rfl⟩ := h'.shape
  clear h h'
  by_cases h1 : 48 < (xs.length : Int)
  · go_enter Try.func6, Try.ntmps6
    go_wp2_with fail
    go_ret
    exact ⟨by simp [isLong8, h1], rfl⟩
  · go_enter Try.func6, Try.ntmps6
    go_wp2_with fail
    go_ret
    exact ⟨by congr 2; simp [isLong8, h1]; omega, rfl⟩
set_option maxHeartbeats 400000 in
theorem r8At_any (v : Value) (xs : List Int) (i n : Int) (w : World) (h : RdB w v xs) (hw : WfB xs) (h0 : 0 ≤ i) (h1 : i ≤ 1000000) (n1 : 1 ≤ n) (n2 : n ≤ 1000) :
    Calls Try.prog 7 #[v, .int .i64 i, .int .i64 n] w (PickE n w) := by
  obtain ⟨a, c, rfl⟩ := h.shape
  by_cases hn : n ≤ 1
  · clear h
    go_enter Try.func7, Try.ntmps7
    go_wp2_with fail
    go_ret
    exact ⟨0, by omega, by omega, rfl, rfl⟩
  · by_cases hl : i < (xs.length : Int)
    · obtain ⟨k, rfl⟩ := Int.eq_ofNat_of_zero_le h0
      have hk : k < xs.length := by omega
      obtain ⟨b, off, rfl, _, hc⟩ := h.at hk
      obtain ⟨hx0, hx1⟩ := hw.at hk
      obtain ⟨x, hx⟩ : ∃ x, x = xs.getD k 0 := ⟨_, rfl⟩
      rw [← hx] at hc hx0 hx1
      have hle := h.len
      unfold maxLen at hle
      clear hx h hw
      go_enter Try.func7, Try.ntmps7
      go_wp2_with fail
      go_ret
      exact ⟨x % n, Int.emod_nonneg _ (by omega), Int.emod_lt_of_pos _ (by omega), rfl, rfl⟩
    · clear h
      go_enter Try.func7, Try.ntmps7
      go_wp2_with fail
      go_ret
      exact ⟨0, by omega, by omega, rfl, rfl⟩

end Go.Proofs.Ytfdaifmfecfchaa

namespace Go.Proofs.Ytfdaifmfecfchaa
open Go.RowKit

theorem owns_ptr {w : World} {base e n c : Nat} {a : Option Addr} {vs : List Value} (h : w.ownsRow base e 1 (.slice a n c) n vs) (hn : 0 < n) : ∃ g, a = some ⟨g, 0, none⟩ := by
  rcases h.2 with ⟨e1, e2⟩ | ⟨g, cap, cur, e1, _⟩
  · omega
  · injection e1 with e2 _ _
    exact ⟨g, e2⟩
theorem owns_cell8 {w : World} {base g n cap k : Nat} {now : List Int} (h : w.ownsRow base 2 1 (.slice (some ⟨g, 0, none⟩) n cap) n (now.map I64)) (hk : k < now.length) :
    w.cell? ⟨g, k, none⟩ = some (.int .i64 (now.getD k 0)) := by
  obtain ⟨b, off, e, hb, hc⟩ := (show RdI w (.slice (some ⟨g, 0, none⟩) n cap) now from slc_of_owns h).at hk
  simp only [Option.some.injEq, Addr.mk.injEq, and_true] at e
  obtain ⟨rfl, rfl⟩ := e
  simpa using hc
theorem idxs_set (L : List Nat) (k x : Nat) : idxs (L.set k x) = (idxs L).set k (x : Int) := by unfold idxs; rw [List.map_set]
theorem idxs_get (L : List Nat) {k : Nat} (h : k < L.length) : (idxs L).getD k 0 = ((L.getD k 0 : Nat) : Int) := by
  unfold idxs
  rw [List.getD_eq_getElem?_getD, List.getElem?_map, List.getD_eq_getElem?_getD, List.getElem?_eq_getElem h]
  rfl
/-- One more number, and two that change places. -/
theorem perm_swap {L : List Nat} {i k : Nat} (hp : L.Perm (List.range i)) (hk : k ≤ i) : (((L ++ [i]).set k i).set i ((L ++ [i]).getD k 0)).Perm (List.range (i + 1)) := by
  have hl : L.length = i := by rw [hp.length_eq, List.length_range]
  have h1 : k < (L ++ [i]).length := by simp; omega
  have h2 : i < (L ++ [i]).length := by simp; omega
  have h := List.set_set_perm h1 h2
  have e1 : (L ++ [i])[i] = i := by rw [List.getElem_append_right (by omega)]; simp
  have e2 : (L ++ [i]).getD k 0 = (L ++ [i])[k] := by rw [List.getD_eq_getElem?_getD, List.getElem?_eq_getElem h1]; rfl
  rw [e1] at h
  rw [e2]
  refine h.trans ?_
  rw [List.range_succ]
  exact hp.append_right [i]

set_option maxHeartbeats 2000000 in
set_option maxRecDepth 4000 in
theorem R8Order_any (v : Value) (bs : List Int) (w : World) (hR : RdB w v bs) (hw : WfB bs) (n : Nat) (hn : n ≤ 64) :
    Calls Try.prog 9 #[v, .int .i64 n] w fun e w' => ∃ (L : List Nat) (v' : Value), L.Perm (List.range n) ∧ e = .returned v' ∧ OwnI w.heap.size w'.heap.size w' v' (idxs L) ∧ Below w.heap.size w w' := by
  have HR := Lib.hid hR
  have HW := Lib.hid hw
  have HF := Lib.hid (l00From_any v bs w hR)
  clear hR hw
  go_enter Try.func9, Try.ntmps9
  go_wp2_with fail
  refine HF.out.mono ?_
  rintro e w1 ⟨rfl, hs, hb1⟩
  have HS1 := Lib.hid hs
  have HB1 := Lib.hid hb1
  have hz1 := HB1.out.size
  have hs1 := hs.lt
  clear hs hb1 HF
  go_wp2_with fail
  go_loopw [6, 7] (fun ov iv wr => ∃ (i : Nat) (L : List Nat) (oa : Option Addr) (oc : Nat), iv = .int .i64 i ∧ i ≤ n ∧ ov = .slice oa i oc ∧ Hid (L.Perm (List.range i)) ∧ Hid (wr.ownsRow w1.heap.size 2 1 (.slice oa i oc) i ((idxs L).map I64)) ∧ Hid (SrcAt wr w.heap.size v (2 * i)) ∧ Hid (Below w.heap.size w wr) ∧ w1.heap.size ≤ wr.heap.size) (fun _ iv _ => n + 1 - (intOf iv).toNat)
  case atStart => exact ⟨0, [], _, 0, rfl, Nat.zero_le _, rfl, Lib.hid (List.Perm.refl _), Lib.hid (owns_emptyB _ _ rfl), Lib.hid (HS1.out.below ((Below.refl _ _).alloc (Nat.le_refl _) _) hs1), Lib.hid (HB1.out.alloc hz1 _), by simp⟩
  case round =>
    obtain ⟨i, L, oa, oc, rfl, hi, rfl, HP, HO, HS, HB, hzw⟩ := hrel
    obtain ⟨wo, rfl⟩ : ∃ wo, wo = wr := ⟨wr, rfl⟩
    by_cases hlt : i < n
    · have hltI : (i : Int) < (n : Int) := by omega
      have hadd : IntKind.i64.wrap ((i : Int) + 1) = (i : Int) + 1 := IntWalk.i64_in _ (by omega)
      go_upto_region 7 with (go_at_call 38; refine (pick_any w v bs HR.out HW.out w.heap.size (2 * i) wo (Nat.le_refl _) HB.out HS.out (by omega) ((i : Int) + 1) (by omega) (by omega)).mono ?_; rintro e w2 ⟨x, hx0, hx1, rfl, hs2, hk2⟩)
      obtain ⟨k, rfl⟩ := Int.eq_ofNat_of_zero_le hx0
      have hki : k ≤ i := by omega
      have hz2 := hk2.size
      have HO2 := Lib.hid (ownsK_kept HO.out hk2 (fun g hg e => by have := (HO.out.lt g hg).1; omega))
      have HS2 := Lib.hid hs2
      have HB2 := Lib.hid (HB.out.trans (hk2.toBelow HB.out.size (fun k h1 h2 => by omega)))
      clear hs2 hk2 hx0 hx1
      have HLN := Lib.hid (show (idxs L).length = i by rw [idxs_len, HP.out.length_eq, List.length_range])
      go_upto_region 8 with (at_builtin; refine app_ints rfl _ _ rfl w1.heap.size (.slice oa i oc) i (idxs L) rfl (HO2.out.alloc _) _ [(i : Int)] rfl (slc_one _ _) (i + 1) (idxs (L ++ [i])) (by simp) (by unfold idxs; rw [List.map_append]; rfl) (by omega) (by simp; omega) ?_; intro b3 c3 w3 hown3 hbl3 _ _)
      obtain ⟨g, rfl⟩ := owns_ptr hown3 (by omega)
      have hg1 : w1.heap.size ≤ g := (hown3.lt g rfl).1
      have HB3 := Lib.hid (show Below w1.heap.size w2 w3 from ((Below.refl w1.heap.size w2).alloc (by omega) _).trans hbl3)
      have hz3 := HB3.out.size
      have hll : (L ++ [i]).length = i + 1 := by rw [List.length_append]; have := HLN.out; rw [idxs_len] at this; simp; omega
      have c1 := owns_cell8 hown3 (k := k) (by rw [idxs_len, hll]; omega)
      have c2 := owns_cell8 hown3 (k := i) (by rw [idxs_len, hll]; omega)
      have hLi : (L ++ [i]).getD i 0 = i := by
        have hl : L.length = i := by have := HLN.out; rw [idxs_len] at this; exact this
        rw [List.getD_eq_getElem?_getD, List.getElem?_append_right (by omega), hl, Nat.sub_self]
        rfl
      rw [idxs_get _ (by omega)] at c1 c2
      rw [hLi] at c2
      have f1 := hown3.frozenAt k
      have f2 := hown3.frozenAt i
      have HPM := Lib.hid (perm_swap HP.out hki)
      obtain ⟨x, hx⟩ : ∃ x, x = (L ++ [i]).getD k 0 := ⟨_, rfl⟩
      rw [← hx] at c1 HPM
      have hkI : (k : Int) < (i : Int) + 1 := by omega
      have hiI : (i : Int) < (i : Int) + 1 := by omega
      have HS4 := Lib.hid (show ((w3.setCell ⟨g, k, none⟩ (.int .i64 i)).setCell ⟨g, i, none⟩ (.int .i64 x)).ownsRow w1.heap.size 2 1 (.slice (some ⟨g, 0, none⟩) (i + 1) c3) (i + 1) ((idxs (((L ++ [i]).set k i).set i x)).map I64) by
        rw [idxs_set, idxs_set, List.map_set, List.map_set]
        exact ((hown3.stored k (.int .i64 i)).1.stored i (.int .i64 x)).1)
      have HK4 := Lib.hid (show Kept (· = g) w3 ((w3.setCell ⟨g, k, none⟩ (.int .i64 i)).setCell ⟨g, i, none⟩ (.int .i64 x)) from ((Kept.refl (· = g) w3).setCell (p := ⟨g, k, none⟩) (.inr rfl) _).setCell (p := ⟨g, i, none⟩) (.inr rfl) _)
      have HS5 := Lib.hid ((HS2.out.below HB3.out hs1).kept HK4.out (by omega))
      have HB5 := Lib.hid ((HB2.out.trans (HB3.out.mono hz1)).trans (HK4.out.toBelow (by omega) (fun k h1 h2 => by omega)))
      have hz5 := HK4.out.size
      clear hown3 hbl3
      have hw1 : IntKind.i64.wrap ((i : Int) + 1) = (i : Int) + 1 := hadd
      by_cases hki2 : k = i
      · subst hki2
        obtain rfl : x = k := by rw [hx]; exact hLi
        clear hx hLi c2 f2
        go_wp2_with fail
        go_roundw
        case rel => exact ⟨x + 1, _, _, c3, by go_num, by omega, rfl, HPM, HS4, Lib.hid (HS5.out.mono (by omega)), HB5, by omega⟩
        case measure => simp [intOf]; omega
      · have hki3 : ¬ i = k := fun e => hki2 e.symm
        clear hx hLi
        go_wp2_with fail
        go_roundw
        case rel => exact ⟨i + 1, _, _, c3, by go_num, by omega, rfl, HPM, HS4, Lib.hid (HS5.out.mono (by omega)), HB5, by omega⟩
        case measure => simp [intOf]; omega
    · obtain rfl : i = n := by omega
      go_wp2_with fail
      go_ret
      exact ⟨L, _, HP.out, rfl, (OwnI.mk HO.out).wide hz1 (Nat.le_refl _), HB.out⟩

end Go.Proofs.Ytfdaifmfecfchaa

namespace Go.Proofs.Ytfdaifmfecfchaa
open Go.RowKit Go.Sort

theorem Try.entersTwo (args : Array Value) (w : World) : (callFunc 57 args).run Try.prog w = .ok (.enter 57 args) w :=
  enters_of Try.func57 (by kernel_rfl) rfl args w
/-- What the comparison tells of four numbers. -/
def twoV (xi yi xj yj : Int) : Int := if xi ≤ yi then (if xj ≤ yj then cmpI xi xj else -1) else if xj ≤ yj then 1 else cmpI yj yi
set_option maxHeartbeats 1000000 in
theorem twoCmp_any (i j : Nat) (bx b2 b off n c b' off' c' : Nat) (xi yi xj yj : Int) (w : World) (hi : i < n) (hj : j < n) (hn : n ≤ 1000) (hbox : w.cell? ⟨bx, 0, none⟩ = some (.slice (some ⟨b, off, none⟩) n c)) (hbox2 : w.cell? ⟨b2, 0, none⟩ = some (.slice (some ⟨b', off', none⟩) n c'))
    (d1 : w.cell? ⟨b, off + i, none⟩ = some (.int .i64 xi)) (d2 : w.cell? ⟨b, off + j, none⟩ = some (.int .i64 xj)) (d3 : w.cell? ⟨b', off' + i, none⟩ = some (.int .i64 yi)) (d4 : w.cell? ⟨b', off' + j, none⟩ = some (.int .i64 yj)) :
    Calls Try.prog 57 #[.int .i64 i, .int .i64 j, .pointer (some ⟨bx, 0, none⟩), .pointer (some ⟨b2, 0, none⟩)] w fun e w' => e = .returned (.int .i64 (twoV xi yi xj yj)) ∧ ∃ q, w' = w.drewN q := by
  have hi' : (i : Int) < n := by omega
  have hj' : (j : Int) < n := by omega
  by_cases c1 : xi ≤ yi
  · have k1 : decide (xi ≤ yi) = true := decide_eq_true c1
    by_cases c2 : xj ≤ yj
    · have k2 : decide (xj ≤ yj) = true := decide_eq_true c2
      have HV := Lib.hid (show twoV xi yi xj yj = cmpI xi xj by unfold twoV; rw [if_pos c1, if_pos c2])
      clear c1 c2
      go_enter Try.func57, Try.ntmps57
      go_wp2_with fail
      go_quiet (fail)
      generalize hwt : w.drewN _ = wt
      have e0 : wt.cell? ⟨bx, 0, none⟩ = some (.slice (some ⟨b, off, none⟩) n c) := by subst hwt; exact hbox
      have e1 : wt.cell? ⟨b2, 0, none⟩ = some (.slice (some ⟨b', off', none⟩) n c') := by subst hwt; exact hbox2
      have e2 : wt.cell? ⟨b, off + i, none⟩ = some (.int .i64 xi) := by subst hwt; exact d1
      have e3 : wt.cell? ⟨b, off + j, none⟩ = some (.int .i64 xj) := by subst hwt; exact d2
      have e4 : wt.cell? ⟨b', off' + i, none⟩ = some (.int .i64 yi) := by subst hwt; exact d3
      have e5 : wt.cell? ⟨b', off' + j, none⟩ = some (.int .i64 yj) := by subst hwt; exact d4
      have HWT := Lib.hid (show ∃ q, wt = w.drewN q from ⟨_, hwt.symm⟩)
      clear hwt hbox hbox2 d1 d2 d3 d4
      go_wp2_with fail
      go_quiet ((go_at_call 44; exact quiet_same (cmp64_any _ _ _)))
      go_wp2_with fail
      go_ret
      obtain ⟨q, rfl⟩ := HWT.out
      exact ⟨by rw [HV.out]; rfl, _, by first | exact World.drewN_drewN .. | rfl⟩
    · have k2 : decide (xj ≤ yj) = false := decide_eq_false c2
      have HV := Lib.hid (show twoV xi yi xj yj = -1 by unfold twoV; rw [if_pos c1, if_neg c2])
      clear c1 c2
      go_enter Try.func57, Try.ntmps57
      go_wp2_with fail
      go_quiet (fail)
      go_wp2_with fail
      go_ret
      exact ⟨by rw [HV.out]; rfl, _, rfl⟩
  · have k1 : decide (xi ≤ yi) = false := decide_eq_false c1
    by_cases c2 : xj ≤ yj
    · have k2 : decide (xj ≤ yj) = true := decide_eq_true c2
      have HV := Lib.hid (show twoV xi yi xj yj = 1 by unfold twoV; rw [if_neg c1, if_pos c2])
      clear c1 c2
      go_enter Try.func57, Try.ntmps57
      go_wp2_with fail
      go_quiet (fail)
      go_wp2_with fail
      go_ret
      exact ⟨by rw [HV.out]; rfl, _, rfl⟩
    · have k2 : decide (xj ≤ yj) = false := decide_eq_false c2
      have HV := Lib.hid (show twoV xi yi xj yj = cmpI yj yi by unfold twoV; rw [if_neg c1, if_neg c2])
      clear c1 c2
      go_enter Try.func57, Try.ntmps57
      go_wp2_with fail
      go_quiet (fail)
      generalize hwt : w.drewN _ = wt
      have e0 : wt.cell? ⟨bx, 0, none⟩ = some (.slice (some ⟨b, off, none⟩) n c) := by subst hwt; exact hbox
      have e1 : wt.cell? ⟨b2, 0, none⟩ = some (.slice (some ⟨b', off', none⟩) n c') := by subst hwt; exact hbox2
      have e2 : wt.cell? ⟨b, off + i, none⟩ = some (.int .i64 xi) := by subst hwt; exact d1
      have e3 : wt.cell? ⟨b, off + j, none⟩ = some (.int .i64 xj) := by subst hwt; exact d2
      have e4 : wt.cell? ⟨b', off' + i, none⟩ = some (.int .i64 yi) := by subst hwt; exact d3
      have e5 : wt.cell? ⟨b', off' + j, none⟩ = some (.int .i64 yj) := by subst hwt; exact d4
      have HWT := Lib.hid (show ∃ q, wt = w.drewN q from ⟨_, hwt.symm⟩)
      clear hwt hbox hbox2 d1 d2 d3 d4
      go_wp2_with fail
      go_quiet ((go_at_call 44; exact quiet_same (cmp64_any _ _ _)))
      go_wp2_with fail
      go_ret
      obtain ⟨q, rfl⟩ := HWT.out
      exact ⟨by rw [HV.out]; rfl, _, by first | exact World.drewN_drewN .. | rfl⟩
/-- The comparison of jobs by their two stages' lengths, at indices taken round. -/
def twoF (xs : List Int) (k : Nat) : Int := xs.getD (k % xs.length) 0
theorem twoReads {xs ys : List Int} (hn : 1 ≤ xs.length) (hn2 : xs.length ≤ 12) (hl : ys.length = xs.length) (v u : Value) (bx b2 g : Nat) (w : World) (h : RdI w v xs) (h' : RdI w u ys) (hb : w.cell? ⟨bx, 0, none⟩ = some v) (hb2 : w.cell? ⟨b2, 0, none⟩ = some u)
    (hbx : bx < w.heap.size) (hbx2 : b2 < w.heap.size) (hbg : bx ≠ g) (hbg2 : b2 ≠ g) (hg : ∀ a, v.ownBlock = some a → a ≠ g) (hg2 : ∀ a, u.ownBlock = some a → a ≠ g) :
    CmpReads Try.prog 57 #[.pointer (some ⟨bx, 0, none⟩), .pointer (some ⟨b2, 0, none⟩)] (encN xs.length) (twoC (twoF xs) (twoF ys)) g 0 xs.length w := by
  intro m os dk hs x y
  obtain ⟨a, c, rfl⟩ := h.shape
  obtain ⟨a', c', rfl⟩ := h'.shape
  have hx := Nat.mod_lt x (show 0 < xs.length by omega)
  have hy := Nat.mod_lt y (show 0 < xs.length by omega)
  obtain ⟨b, off, rfl, hbl, d1⟩ := h.at hx
  obtain ⟨_, _, e, _, d2⟩ := h.at hy
  simp only [Option.some.injEq, Addr.mk.injEq] at e
  obtain ⟨rfl, rfl, _⟩ := e
  obtain ⟨b', off', rfl, hbl', d3⟩ := h'.at (i := x % xs.length) (by omega)
  obtain ⟨_, _, e, _, d4⟩ := h'.at (i := y % xs.length) (by omega)
  simp only [Option.some.injEq, Addr.mk.injEq] at e
  obtain ⟨rfl, rfl, _⟩ := e
  have hgb : b ≠ g := hg b rfl
  have hgb' : b' ≠ g := hg2 b' rfl
  have up : ∀ p : Addr, p.block < w.heap.size → p.block ≠ g → (sortWorld (encN xs.length) w g 0 m dk os).cell? p = w.cell? p := by
    intro p h1 h2
    unfold sortWorld
    rw [cell?_grow _ _ _ (by simpa [putRow, mapBlock, Sort.ahead] using h1), cell?_putRow_other _ _ _ _ _ _ (.inl h2)]
    rfl
  rw [hl] at hb2
  have e2 : twoC (twoF xs) (twoF ys) x y = twoV (xs.getD (x % xs.length) 0) (ys.getD (x % xs.length) 0) (xs.getD (y % xs.length) 0) (ys.getD (y % xs.length) 0) := by
    unfold twoC twoV twoF
    rw [hl]
  rw [e2]
  exact twoCmp_any _ _ bx b2 b off xs.length c b' off' c' _ _ _ _ _ hx hy (by omega) ((up _ hbx hbg).trans hb) ((up _ hbx2 hbg2).trans hb2) ((up _ hbl hgb).trans d1) ((up _ hbl hgb).trans d2) ((up _ hbl' hgb').trans d3) ((up _ hbl' hgb').trans d4)

theorem sizes_facts {xs : List Int} {lo hi : Int} (h : allIn lo hi xs = true) : ∀ i, i < xs.length → lo ≤ xs.getD i 0 ∧ xs.getD i 0 ≤ hi := fun i hi2 => by
  unfold allIn at h
  rw [List.all_eq_true] at h
  have := h (xs[i]) (List.getElem_mem hi2)
  rw [List.getD_eq_getElem?_getD, List.getElem?_eq_getElem hi2]
  unfold inB at this
  simpa using this
theorem stEnd_take (a b : Nat → Int) (L : List Nat) (k : Nat) (h : k < L.length) : stEnd a b (0, 0) (L.take (k + 1)) = ((stEnd a b (0, 0) (L.take k)).1 + a (L.getD k 0), max ((stEnd a b (0, 0) (L.take k)).1 + a (L.getD k 0)) (stEnd a b (0, 0) (L.take k)).2 + b (L.getD k 0)) := by
  rw [List.take_add_one, List.getElem?_eq_getElem h, stEnd_app, List.getD_eq_getElem?_getD, List.getElem?_eq_getElem h]
  rfl
theorem stEnd_rng {a b : Nat → Int} (ha : ∀ x, 0 ≤ a x ∧ a x ≤ 1000) (hb : ∀ x, 0 ≤ b x ∧ b x ≤ 1000) : ∀ (L : List Nat) (s : Int × Int) (M : Int), 0 ≤ s.1 → s.1 ≤ M → 0 ≤ s.2 → s.2 ≤ 2 * M →
    0 ≤ (stEnd a b s L).1 ∧ (stEnd a b s L).1 ≤ M + 1000 * L.length ∧ 0 ≤ (stEnd a b s L).2 ∧ (stEnd a b s L).2 ≤ 2 * (M + 1000 * L.length)
  | [], s, M, h1, h2, h3, h4 => by simp [stEnd]; omega
  | x :: L, s, M, h1, h2, h3, h4 => by
    have := ha x
    have := hb x
    have ih := stEnd_rng ha hb L (s.1 + a x, max (s.1 + a x) s.2 + b x) (M + 1000) (by show 0 ≤ s.1 + a x; omega) (by show s.1 + a x ≤ _; omega) (by show 0 ≤ max (s.1 + a x) s.2 + b x; omega) (by show max (s.1 + a x) s.2 + b x ≤ _; omega)
    simp only [stEnd, List.length_cons]
    push_cast
    omega
theorem idxs_at9 {L : List Nat} {i : Nat} (h : i < L.length) : (idxs L).getD i 0 = (L.getD i 0 : Int) := by
  unfold idxs
  rw [List.getD_eq_getElem?_getD, List.getElem?_map, List.getD_eq_getElem?_getD, List.getElem?_eq_getElem h]
  rfl
theorem getD_mem9 {L : List Nat} {i : Nat} (h : i < L.length) : L.getD i 0 ∈ L := by
  rw [List.getD_eq_getElem?_getD, List.getElem?_eq_getElem h]
  exact List.getElem_mem h

set_option maxHeartbeats 2000000 in
set_option maxRecDepth 8000 in
/-- The law's own two stages. -/
theorem r8Stages_any (v u o : Value) (xs ys : List Int) (L : List Nat) (w : World) (h : RdI w v xs) (h' : RdI w u ys) (ho : RdI w o (idxs L)) (hx : allIn 1 1000 xs = true) (hy : allIn 1 1000 ys = true) (hl : ys.length = xs.length) (hL : L.Perm (List.range xs.length)) (hn : xs.length ≤ 12) :
    Calls Try.prog 25 #[v, u, o] w fun e w' => e = .returned (.int .i64 (stEnd (twoF xs) (twoF ys) (0, 0) L).2) ∧ w = w' := by
  obtain ⟨a, c, rfl⟩ := h.shape
  obtain ⟨a', c', rfl⟩ := h'.shape
  obtain ⟨oa, oc, rfl⟩ := ho.shape
  have hLl : L.length = xs.length := by rw [hL.length_eq, List.length_range]
  have HLT := Lib.hid (fun k (hk : k < L.length) => List.mem_range.1 (hL.mem_iff.1 (getD_mem9 hk)))
  have HX := Lib.hid (sizes_facts hx)
  have HY := Lib.hid (sizes_facts hy)
  have HR := Lib.hid h
  have HR' := Lib.hid h'
  have HO := Lib.hid ho
  have HLY := Lib.hid hl
  have HST := Lib.hid (stEnd_take (twoF xs) (twoF ys) L)
  have HFX := Lib.hid (fun k (hk : k < xs.length) => show twoF xs k = xs.getD k 0 by unfold twoF; rw [Nat.mod_eq_of_lt hk])
  have HFY := Lib.hid (fun k (hk : k < xs.length) => show twoF ys k = ys.getD k 0 by unfold twoF; rw [Nat.mod_eq_of_lt (by omega)])
  have HRG := Lib.hid (fun k (hk : k ≤ L.length) => stEnd_rng (a := twoF xs) (b := twoF ys) (fun x => by
    by_cases e : xs.length = 0
    · have : xs = [] := List.length_eq_zero_iff.1 e
      subst this; simp [twoF]
    · have := HX.out (x % xs.length) (Nat.mod_lt _ (by omega)); unfold twoF; omega) (fun x => by
    by_cases e : ys.length = 0
    · have : ys = [] := List.length_eq_zero_iff.1 e
      subst this; simp [twoF]
    · have := HY.out (x % ys.length) (Nat.mod_lt _ (by omega)); unfold twoF; omega) (L.take k) (0, 0) 0 (Int.le_refl _) (Int.le_refl _) (Int.le_refl _) (Int.le_refl _))
  rw [idxs_len]
  obtain ⟨n, hn'⟩ : ∃ n, n = L.length := ⟨_, rfl⟩
  have HN := Lib.hid hn'.symm
  have hnx : xs.length = n := by omega
  rw [hl, hnx]
  rw [← hn'] at HLT HST HRG ⊢
  rw [hnx] at HX hn HFX HFY HLT
  have HNX := Lib.hid hnx
  clear h h' ho hl hLl hL hx hy hn' hnx
  go_enter Try.func25, Try.ntmps25
  go_wp2_with fail
  go_loopw [7, 8, 9] (fun ov tv kv wr => ∃ k : Nat, kv = .int .i64 k ∧ k ≤ n ∧ ov = .int .i64 (stEnd (twoF xs) (twoF ys) (0, 0) (L.take k)).1 ∧ tv = .int .i64 (stEnd (twoF xs) (twoF ys) (0, 0) (L.take k)).2 ∧ w = wr) (fun _ _ kv _ => n + 1 - (intOf kv).toNat)
  case atStart => exact ⟨0, rfl, Nat.zero_le _, rfl, rfl, rfl⟩
  case round =>
    obtain ⟨k, rfl, hk, rfl, rfl, rfl⟩ := hrel
    by_cases hkn : k < n
    · have hkI : (k : Int) < (n : Int) := by omega
      have hrg := HRG.out k hk
      have hlen : (L.take k).length ≤ 12 := by rw [List.length_take]; omega
      have hst := HST.out k hkn
      obtain ⟨ob, oo, rfl, _, co⟩ := HO.out.at (i := k) (by rw [idxs_len, HN.out]; exact hkn)
      rw [idxs_at9 (by rw [HN.out]; exact hkn)] at co
      have hlt := HLT.out k hkn
      obtain ⟨x, hx⟩ : ∃ x, x = L.getD k 0 := ⟨_, rfl⟩
      rw [← hx] at co hlt hst
      rw [HFX.out x hlt, HFY.out x hlt] at hst
      have hxI : (x : Int) < (n : Int) := by omega
      obtain ⟨vb, vo, rfl, _, cv⟩ := HR.out.at (i := x) (by rw [HNX.out]; exact hlt)
      obtain ⟨ub, uo, rfl, _, cu⟩ := HR'.out.at (i := x) (by rw [HLY.out, HNX.out]; exact hlt)
      have h1 := HX.out x hlt
      have h2 := HY.out x (by rw [HLY.out, HNX.out]; exact hlt)
      obtain ⟨p, hp⟩ : ∃ p, p = xs.getD x 0 := ⟨_, rfl⟩
      obtain ⟨q, hq⟩ : ∃ p, p = ys.getD x 0 := ⟨_, rfl⟩
      rw [← hp] at cv h1 hst
      rw [← hq] at cu h2 hst
      obtain ⟨⟨s, t⟩, hs⟩ : ∃ s, s = stEnd (twoF xs) (twoF ys) (0, 0) (L.take k) := ⟨_, rfl⟩
      rw [← hs] at hrg hst ⊢
      simp only at hrg hst ⊢
      have w1 : IntKind.i64.wrap (s + p) = s + p := IntWalk.i64_in _ (by omega)
      have w2 : IntKind.i64.wrap (max (s + p) t + q) = max (s + p) t + q := IntWalk.i64_in _ (by omega)
      have HS := Lib.hid hst
      clear hrg hlen hst hx hp hq hs h1 h2
      go_wp2_with fail
      go_roundw
      case rel => exact ⟨k + 1, by go_num, by omega, by rw [HS.out], by rw [HS.out], by first | rfl | trivial⟩
      case measure => simp [intOf]; omega
    · obtain rfl : k = n := by omega
      rw [List.take_of_length_le (by rw [HN.out]; exact Nat.le_refl _)]
      have hkk : ¬ (k : Int) < (k : Int) := by omega
      go_wp2_with fail
      go_ret
      exact ⟨rfl, rfl⟩

set_option maxHeartbeats 2000000 in
set_option maxRecDepth 8000 in
/-- Sizes that are drawn. -/
theorem R8Sizes_any (v : Value) (bs : List Int) (w : World) (hR : RdB w v bs) (hw : WfB bs) (n : Nat) (hn : n ≤ 64) :
    Calls Try.prog 23 #[v, .int .i64 n] w fun e w' => ∃ (xs : List Int) (v' : Value), xs.length = n ∧ allIn 1 12 xs = true ∧ e = .returned v' ∧ OwnI w.heap.size w'.heap.size w' v' xs ∧ Below w.heap.size w w' := by
  have HR := Lib.hid hR
  have HW := Lib.hid hw
  have HF := Lib.hid (l00From_any v bs w hR)
  clear hR hw
  go_enter Try.func23, Try.ntmps23
  go_upto_region 2 with (go_at_call 36; refine HF.out.mono ?_; rintro e w1 ⟨rfl, hs, hb1⟩)
  have HS1 := Lib.hid hs
  have HB1 := Lib.hid hb1
  have hz1 := HB1.out.size
  have hs1 := hs.lt
  clear hs hb1 HF
  go_wp2_with fail
  go_loopw [1, 6] (fun nv ov wr => ∃ (i : Nat) (xs : List Int) (oa : Option Addr) (oc : Nat), nv = .int .i64 ((n : Int) - i) ∧ i ≤ n ∧ ov = .slice oa i oc ∧ Hid (xs.length = i) ∧ Hid (allIn 1 12 xs = true) ∧ Hid (wr.ownsRow w1.heap.size 2 1 (.slice oa i oc) i (xs.map I64)) ∧ Hid (SrcAt wr w.heap.size v (2 * i)) ∧ Hid (Below w.heap.size w wr) ∧ w1.heap.size ≤ wr.heap.size) (fun nv _ _ => (intOf nv).toNat)
  case atStart => exact ⟨0, [], _, 0, by simp, Nat.zero_le _, rfl, Lib.hid rfl, Lib.hid rfl, Lib.hid (owns_emptyB _ _ rfl), Lib.hid (HS1.out.below ((Below.refl _ _).alloc (Nat.le_refl _) _) hs1), Lib.hid (HB1.out.alloc hz1 _), by simp⟩
  case round =>
    obtain ⟨i, xs, oa, oc, rfl, hi, rfl, HL, HA, HO, HS, HB, hzw⟩ := hrel
    obtain ⟨wo, rfl⟩ : ∃ wo, wo = wr := ⟨wr, rfl⟩
    by_cases hlt : i < n
    · have hltI : (0 : Int) < (n : Int) - i := by omega
      have HAPP := Lib.hid (fun (x : Int) (h0 : 0 ≤ x) (h1 : x < 12) => show allIn 1 12 (xs ++ [1 + x]) = true by
        have := HA.out
        unfold allIn at this ⊢
        rw [List.all_append, this]
        simp [inB]
        omega)
      go_wp2_with (first
        | (go_at_call 38; refine (pick_any w v bs HR.out HW.out w.heap.size (2 * i) wo (Nat.le_refl _) HB.out HS.out (by omega) 12 (by omega) (by omega)).mono ?_; rintro e w2 ⟨x, hx0, hx1, rfl, hs2, hk2⟩; have hz2 := hk2.size; have HO2 := Lib.hid (ownsK_kept HO.out hk2 (fun g hg e => by have := (HO.out.lt g hg).1; omega)); have HS2 := Lib.hid hs2; have HB2 := Lib.hid (HB.out.trans (hk2.toBelow HB.out.size (fun k h1 h2 => by omega))); have HA2 := Lib.hid (HAPP.out x hx0 hx1); clear hs2 hk2)
        | (at_builtin; refine app_ints rfl _ _ rfl w1.heap.size (.slice oa i oc) i xs rfl (HO2.out.alloc _) _ [1 + x] rfl (slc_one _ _) (i + 1) (xs ++ [1 + x]) (by simp) rfl (by omega) (by simp; omega) ?_; intro b3 c3 w3 hown3 hbl3 _ _))
      have HB3 := Lib.hid (show Below w1.heap.size w2 w3 from ((Below.refl w1.heap.size w2).alloc (by omega) _).trans hbl3)
      have hz3 := HB3.out.size
      go_roundw
      case rel => exact ⟨i + 1, xs ++ [1 + x], b3, c3, by go_num, by omega, rfl, Lib.hid (by simp [HL.out]), HA2, Lib.hid hown3, Lib.hid ((HS2.out.below HB3.out hs1).mono (by omega)), Lib.hid (HB2.out.trans (HB3.out.mono hz1)), by omega⟩
      case measure => simp [intOf]; omega
    · obtain rfl : i = n := by omega
      have hkk : ¬ (0 : Int) < (i : Int) - i := by omega
      go_wp2_with fail
      go_ret
      exact ⟨xs, HL.out, HA.out, _, rfl, (OwnI.mk HO.out).wide hz1 (Nat.le_refl _), HB.out⟩

set_option maxHeartbeats 4000000 in
set_option maxRecDepth 8000 in
/-- The best order of jobs of two stages, by the program. -/
theorem twoI_any (v u : Value) (xs ys : List Int) (w : World) (h : RdI w v xs) (h' : RdI w u ys) (hx : allIn 1 1000 xs = true) (hy : allIn 1 1000 ys = true) (hl : ys.length = xs.length) (hn1 : 1 ≤ xs.length) (hn : xs.length ≤ 12) :
    Calls Try.prog 24 #[v, u] w fun e w' => ∃ o, e = .returned (.tuple #[o, .int .i64 (stEnd (twoF xs) (twoF ys) (0, 0) (ordC (twoC (twoF xs) (twoF ys)) xs.length)).2, .bool true]) ∧ OwnI w.heap.size w'.heap.size w' o (idxs (ordC (twoC (twoF xs) (twoF ys)) xs.length)) ∧ Below w.heap.size w w' := by
  obtain ⟨a, c, rfl⟩ := h.shape
  obtain ⟨a', c', rfl⟩ := h'.shape
  rw [hl] at h' ⊢
  have hown : ∀ g, (Value.slice a xs.length c).ownBlock = some g → g < w.heap.size := fun g hg => by
    obtain ⟨b, off, rfl, hb, _⟩ := h.at (i := 0) (by omega)
    have : b = g := Option.some.inj hg
    omega
  have hown' : ∀ g, (Value.slice a' xs.length c').ownBlock = some g → g < w.heap.size := fun g hg => by
    obtain ⟨b, off, rfl, hb, _⟩ := h'.at (i := 0) (by omega)
    have : b = g := Option.some.inj hg
    omega
  have HOD := Lib.hid (fun X (hb : Below w.heap.size w X) (hk : Box X w.heap.size 27 (.slice a xs.length c)) (hk2 : Box X (w.heap.size + 1) 27 (.slice a' xs.length c')) (hz : w.heap.size + 1 < X.heap.size) =>
    orderByC_any 57 #[.pointer (some ⟨w.heap.size, 0, none⟩), .pointer (some ⟨w.heap.size + 1, 0, none⟩)] Try.entersTwo (twoC (twoF xs) (twoF ys)) (swo_two _ _) xs.length hn1 hn X (fun w0 g hb0 hg => twoReads hn1 hn hl _ _ w.heap.size (w.heap.size + 1) g w0 ((h.up hb (Nat.le_refl _)).up hb0 (Nat.le_refl _)) ((h'.up hb (Nat.le_refl _)).up hb0 (Nat.le_refl _)) (hk.below hb0 (by omega)).cell (hk2.below hb0 hz).cell (Nat.lt_of_lt_of_le (by omega) hb0.size) (Nat.lt_of_lt_of_le hz hb0.size) (by omega) (by omega) (fun a ha => by have := hown a ha; omega) (fun a ha => by have := hown' a ha; omega)))
  have hLp := ordC_perm (swo_two (twoF xs) (twoF ys)) xs.length
  obtain ⟨L, hL⟩ : ∃ L, L = ordC (twoC (twoF xs) (twoF ys)) xs.length := ⟨_, rfl⟩
  rw [← hL] at HOD hLp ⊢
  have hLl : L.length = xs.length := by rw [hLp.length_eq, List.length_range]
  have HLT := Lib.hid (fun k (hk : k < L.length) => List.mem_range.1 (hLp.mem_iff.1 (getD_mem9 hk)))
  have HX := Lib.hid (sizes_facts hx)
  have HY := Lib.hid (sizes_facts hy)
  have HR := Lib.hid h
  have HR' := Lib.hid h'
  have HLY := Lib.hid hl
  have HST := Lib.hid (stEnd_take (twoF xs) (twoF ys) L)
  have HFX := Lib.hid (fun k (hk : k < xs.length) => show twoF xs k = xs.getD k 0 by unfold twoF; rw [Nat.mod_eq_of_lt hk])
  have HFY := Lib.hid (fun k (hk : k < xs.length) => show twoF ys k = ys.getD k 0 by unfold twoF; rw [Nat.mod_eq_of_lt (by omega)])
  have HRG := Lib.hid (fun k (hk : k ≤ L.length) => stEnd_rng (a := twoF xs) (b := twoF ys) (fun x => by
    have := HX.out (x % xs.length) (Nat.mod_lt _ (by omega)); unfold twoF; omega) (fun x => by
    have := HY.out (x % ys.length) (Nat.mod_lt _ (by omega)); unfold twoF; omega) (L.take k) (0, 0) 0 (Int.le_refl _) (Int.le_refl _) (Int.le_refl _) (Int.le_refl _))
  have HA1 := Lib.hid (fun X (hb : Below w.heap.size w X) => allWithin_any _ xs 1 1000 X (h.up hb (Nat.le_refl _)))
  have HA2 := Lib.hid (fun X (hb : Below w.heap.size w X) => allWithin_any _ ys 1 1000 X (h'.up hb (Nat.le_refl _)))
  rw [hx] at HA1
  rw [hy] at HA2
  have HSF := Lib.hid (fun X => size_any xs.length X (by unfold maxLen; omega))
  have HWI := Lib.hid (fun X => within_any (xs.length : Int) 1 12 X)
  rw [inB_true (by omega)] at HWI
  obtain ⟨n, hn'⟩ : ∃ n, n = xs.length := ⟨_, rfl⟩
  rw [← hn'] at HOD HLT HX HR HR' HLY HFX HFY HSF HWI hn1 hn hLl hLp ⊢
  rw [hLl] at HLT HST HRG
  have HN := Lib.hid hn'.symm
  have HLl := Lib.hid hLl
  have HA1 : Hid (∀ X, Below w.heap.size w X → Calls Try.prog 56 #[.slice a n c, .int .i64 1, .int .i64 1000] X fun e w' => e = .returned (.bool true) ∧ X = w') := Lib.hid (by rw [hn']; exact HA1.out)
  have HA2 : Hid (∀ X, Below w.heap.size w X → Calls Try.prog 56 #[.slice a' n c', .int .i64 1, .int .i64 1000] X fun e w' => e = .returned (.bool true) ∧ X = w') := Lib.hid (by rw [hn']; exact HA2.out)
  clear h h' hown hown' hL hLp hLl hx hy hl hn'
  have hne : ((n : Int) != (n : Int)) = false := by simp
  go_enter Try.func24, Try.ntmps24
  go_upto_region 1 with fail
  refine wp_at fun W0 hW0 => ?_
  have HB0 := Lib.hid (show Below w.heap.size w W0 by subst hW0; (repeat' first | exact Below.refl _ _ | assumption | refine Below.alloc ?_ ?_ _ | refine Below.setCell ?_ ?_ _ | refine Below.drew ?_ | (simp; done) | (simp; omega)))
  have HK0 := Lib.hid (show Box W0 w.heap.size 27 (.slice a n c) by subst hW0; exact (Box.new _ _ _).below (B := w.heap.size + 1) ((Below.refl _ _).alloc (by simp) _) (by omega))
  have HK1 := Lib.hid (show Box W0 (w.heap.size + 1) 27 (.slice a' n c') by subst hW0; have := Box.new (w.alloc (.cells #[.slice a n c] 27)) 27 (.slice a' n c'); simpa using this)
  have hz0 := HB0.out.size
  have hk0 := HK0.out.lt
  have hk1 := HK1.out.lt
  clear hW0
  have d0 := HK0.out.cell
  have d1 := HK1.out.cell
  go_upto_region 3 with (first
    | (go_at_call 47; refine (HSF.out _).mono ?_; rintro e w' ⟨rfl, rfl⟩)
    | (go_at_call 55; refine (HWI.out _).mono ?_; rintro e w' ⟨rfl, rfl⟩)
    | (go_at_call_of 56 a; refine (HA1.out _ HB0.out).mono ?_; rintro e w' ⟨rfl, rfl⟩)
    | (go_at_call_of 56 a'; refine (HA2.out _ HB0.out).mono ?_; rintro e w' ⟨rfl, rfl⟩)
    | fail)
  go_upto_region 4 with (go_at_call 42; refine (HOD.out W0 HB0.out HK0.out HK1.out hk1).mono ?_; rintro e w1 ⟨o, rfl, ho, hb1⟩; obtain ⟨oa, oc, rfl⟩ := ho.rd.shape)
  have HB1 := Lib.hid (HB0.out.trans (hb1.mono hz0))
  have HO := Lib.hid (ho.wide hz0 (Nat.le_refl _))
  have e0 := (HK0.out.below hb1 hk0).cell
  have e1 := (HK1.out.below hb1 hk1).cell
  clear d0 d1 ho hb1 HA1 HA2 HSF HWI HOD HK0 HK1 hk0 hk1 hne
  have hli : (idxs L).length = n := by rw [idxs_len]; exact HLl.out
  rw [hli] at HO ⊢
  clear hli
  go_wp2_with fail
  go_loopw [8, 9, 11, 40] (fun ov tv _ kv wr => ∃ k : Nat, kv = .int .i64 k ∧ k ≤ n ∧ ov = .int .i64 (stEnd (twoF xs) (twoF ys) (0, 0) (L.take k)).1 ∧ tv = .int .i64 (stEnd (twoF xs) (twoF ys) (0, 0) (L.take k)).2 ∧ w1 = wr) (fun _ _ _ kv _ => n + 1 - (intOf kv).toNat)
  case atStart => exact ⟨0, rfl, Nat.zero_le _, rfl, rfl, rfl⟩
  case round =>
    obtain ⟨k, rfl, hk, rfl, rfl, rfl⟩ := hrel
    by_cases hkn : k < n
    · have hkI : (k : Int) < (n : Int) := by omega
      have hrg := HRG.out k hk
      have hlen : (L.take k).length ≤ 12 := by rw [List.length_take]; omega
      have hst := HST.out k hkn
      obtain ⟨ob, oo, rfl, _, co⟩ := HO.out.rd.at (i := k) (by rw [idxs_len, HLl.out]; exact hkn)
      rw [idxs_at9 (by rw [HLl.out]; exact hkn)] at co
      have hlt := HLT.out k hkn
      obtain ⟨x, hx⟩ : ∃ x, x = L.getD k 0 := ⟨_, rfl⟩
      rw [← hx] at co hlt hst
      rw [HFX.out x hlt, HFY.out x hlt] at hst
      have hxI : (x : Int) < (n : Int) := by omega
      obtain ⟨vb, vo, rfl, _, cv⟩ := (HR.out.up HB1.out (Nat.le_refl _)).at (i := x) (by rw [HN.out]; exact hlt)
      obtain ⟨ub, uo, rfl, _, cu⟩ := (HR'.out.up HB1.out (Nat.le_refl _)).at (i := x) (by rw [HLY.out]; exact hlt)
      have h1 := HX.out x hlt
      have h2 := HY.out x (by rw [HLY.out]; exact hlt)
      obtain ⟨p, hp⟩ : ∃ p, p = xs.getD x 0 := ⟨_, rfl⟩
      obtain ⟨q, hq⟩ : ∃ p, p = ys.getD x 0 := ⟨_, rfl⟩
      rw [← hp] at cv h1 hst
      rw [← hq] at cu h2 hst
      obtain ⟨⟨s, t⟩, hs⟩ : ∃ s, s = stEnd (twoF xs) (twoF ys) (0, 0) (L.take k) := ⟨_, rfl⟩
      rw [← hs] at hrg hst ⊢
      simp only at hrg hst ⊢
      have w1' : IntKind.i64.wrap (s + p) = s + p := IntWalk.i64_in _ (by omega)
      have w2' : IntKind.i64.wrap (max (s + p) t + q) = max (s + p) t + q := IntWalk.i64_in _ (by omega)
      have HS := Lib.hid hst
      clear hrg hlen hst hx hp hq hs h1 h2
      go_wp2_with fail
      go_roundw
      case rel => exact ⟨k + 1, by go_num, by omega, by rw [HS.out], by rw [HS.out], by first | rfl | trivial⟩
      case measure => simp [intOf]; omega
    · obtain rfl : k = n := by omega
      rw [List.take_of_length_le (by rw [HLl.out]; exact Nat.le_refl _)]
      have hkk : ¬ (k : Int) < (k : Int) := by omega
      go_wp2_with fail
      go_ret3
      exact ⟨_, rfl, HO.out, HB1.out⟩

end Go.Proofs.Ytfdaifmfecfchaa
