/-
  FnSpans: texts joined: Digits, Src, SpanDraw.
-/
import Derived.Deep.Cut
import Derived.Deep.RegionLaw
import Derived.Deep.CutRange
import Derived.Lib.AppendZeros
import Derived.Test.YtkfiepiipigcmaaMFnSpansAH
import Derived.Test.YtkfiepiipigcmaaMFnSpansAO
namespace Go.Proofs.Ytkfiepiipigcmaa
open Go.RowKit

def digI (n i : Nat) : List Int := ((List.range i).filter n.testBit).map fun (k : Nat) => (k : Int)
theorem digI_yes {n i : Nat} (h : n.testBit i = true) : digI n (i + 1) = digI n i ++ [(i : Int)] := by simp [digI, List.range_succ, h]
theorem digI_no {n i : Nat} (h : n.testBit i = false) : digI n (i + 1) = digI n i := by simp [digI, List.range_succ, h]
theorem digI_len (n i : Nat) : (digI n i).length ≤ i := by
  have := List.length_filter_le n.testBit (List.range i)
  simpa [digI] using this
theorem shr_cast (n i : Nat) : (n : Int) / 2 ^ i = ((n >>> i : Nat) : Int) := by
  rw [Nat.shiftRight_eq_div_pow]; push_cast; rfl
theorem ofInt_i64 (a : Nat) (ha : a < 9223372036854775808) : (BitVec.ofInt 64 (a : Int)).toNat = a := by
  rw [BitVec.ofInt_natCast, BitVec.toNat_ofNat]; exact Nat.mod_eq_of_lt (by omega)
theorem i64_and_nat (a b : Nat) (ha : a < 9223372036854775808) (hb : b < 9223372036854775808) : bits .and .i64 (a : Int) (b : Int) = ((a &&& b : Nat) : Int) := by
  have hx : a &&& b < 2 ^ 63 := Nat.and_lt_two_pow _ (by omega)
  show IntKind.i64.wrap ((BitVec.ofInt 64 (a : Int) &&& BitVec.ofInt 64 (b : Int)).toNat : Int) = _
  rw [BitVec.toNat_and, ofInt_i64 a ha, ofInt_i64 b hb, IntKind.wrap_i64]
  omega
theorem i64_or_nat (a b : Nat) (ha : a < 9223372036854775808) (hb : b < 9223372036854775808) : bits .or .i64 (a : Int) (b : Int) = ((a ||| b : Nat) : Int) := by
  have hx : a ||| b < 2 ^ 63 := Nat.or_lt_two_pow (by omega) (by omega)
  show IntKind.i64.wrap ((BitVec.ofInt 64 (a : Int) ||| BitVec.ofInt 64 (b : Int)).toNat : Int) = _
  rw [BitVec.toNat_or, ofInt_i64 a ha, ofInt_i64 b hb, IntKind.wrap_i64]
  omega
theorem bit_of (n i : Nat) : (n >>> i) &&& 1 = (n.testBit i).toNat := by
  rw [Nat.and_one_is_mod, Nat.testBit_eq_decide_div_mod_eq, Nat.shiftRight_eq_div_pow]
  by_cases h : n / 2 ^ i % 2 = 1
  · simp [h]
  · have : n / 2 ^ i % 2 = 0 := by omega
    simp [this]

set_option maxHeartbeats 1000000 in
theorem digits_any (n : Nat) (hn : n < 64) (w : World) :
    Calls Try.prog 74 #[.int .i64 n] w fun e w' => ∃ v', e = .returned v' ∧ OwnI w.heap.size w'.heap.size w' v' ((dig n).map fun (k : Nat) => (k : Int)) ∧ Below w.heap.size w w' := by
  go_enter Try.func74, Try.ntmps74
  go_wp2_with fail
  go_loopw [3, 4] (fun out kk wr => ∃ (i : Nat) (b : Option Addr) (cap : Nat), kk = .int .i64 i ∧ i ≤ 6 ∧ out = .slice b (digI n i).length cap ∧ wr.ownsRow w.heap.size 2 1 (.slice b (digI n i).length cap) (digI n i).length ((digI n i).map I64) ∧ Below w.heap.size w wr) (fun _ kk _ => 7 - (intOf kk).toNat)
  case atStart => exact ⟨0, none, 0, rfl, by omega, rfl, World.ownsRow_nil _ _ _ _, Below.refl _ _⟩
  case round =>
    obtain ⟨i, b, cap, rfl, hi, rfl, hown, hbl⟩ := hrel
    have HO := Lib.hid hown
    have HB := Lib.hid hbl
    have hd := shr_cast n i
    have hbit := bit_of n i
    obtain ⟨Q, hQ⟩ : ∃ Q, Q = n >>> i := ⟨_, rfl⟩
    rw [← hQ] at hd hbit
    have hQ64 : Q < 64 := by rw [hQ]; exact Nat.lt_of_le_of_lt (Nat.shiftRight_le n i) hn
    have hand := i64_and_nat Q 1 (by omega) (by decide)
    rw [hbit] at hand
    have HQ := Lib.hid hQ
    have hlen := digI_len n i
    clear hown hbl hQ hbit
    by_cases hz : 0 < Q
    · have hi6 : i < 6 := by
        by_cases h : i < 6
        · exact h
        · obtain rfl : i = 6 := by omega
          have := HQ.out
          rw [Nat.shiftRight_eq_div_pow] at this
          omega
      by_cases ht : n.testBit i = true
      · rw [ht] at hand
        have HE := Lib.hid (digI_yes ht)
        obtain ⟨ks, hks⟩ : ∃ ks, ks = digI n i := ⟨_, rfl⟩
        rw [← hks] at HO HE hlen ⊢
        have hsz := HB.out.size
        clear ht hks
        have hand2 : bits .and .i64 (Q : Int) 1 = 1 := by simpa using hand
        clear hand
        go_wp2_with (at_builtin; refine app_ints rfl _ _ rfl w.heap.size (.slice b ks.length cap) ks.length ks rfl (HO.out.alloc _) _ [(i : Int)] rfl (slc_one _ _) (ks.length + 1) (ks ++ [(i : Int)]) (by simp) rfl (by omega) (by simp; omega) ?_; intro b2 cap2 w3 hown2 hbl2 _ _)
        go_roundw
        case rel => exact ⟨i + 1, b2, cap2, by go_num, by omega, by rw [HE.out, List.length_append]; rfl, by rw [HE.out, List.length_append]; exact hown2, HB.out.trans (((Below.refl _ _).alloc hsz _).trans hbl2)⟩
        case measure => simp [intOf]; omega
      · rw [Bool.not_eq_true] at ht
        rw [ht] at hand
        have HE := Lib.hid (digI_no ht)
        clear ht
        have hand2 : bits .and .i64 (Q : Int) 1 = 0 := by simpa using hand
        clear hand
        go_wp2_with fail
        go_roundw
        case rel => exact ⟨i + 1, b, cap, by go_num, by omega, by rw [HE.out], by rw [HE.out]; exact HO.out, HB.out⟩
        case measure => simp [intOf]; omega
    · have hQ0 : Q = 0 := by omega
      have HD := Lib.hid (show digI n i = (dig n).map fun (k : Nat) => (k : Int) by
        unfold digI
        rw [dig_of ?_ (by omega)]
        have h1 := HQ.out
        rw [hQ0, Nat.shiftRight_eq_div_pow] at h1
        have h2 : 0 < 2 ^ i := Nat.two_pow_pos i
        rcases Nat.div_eq_zero_iff.1 h1.symm with h3 | h3
        · omega
        · exact h3)
      clear hz
      go_wp2_with fail
      go_ret
      exact ⟨_, rfl, by rw [← HD.out]; exact OwnI.mk HO.out, HB.out⟩

theorem u64_shr_cast (n i : Nat) : (n : Int) / 2 ^ i = ((n >>> i : Nat) : Int) := shr_cast n i

theorem wrap64_nat {n : Nat} (h : n < 18446744073709551616) : IntKind.u64.wrap (n : Int) = (n : Int) := IntWalk.u64_in _ (by omega)
theorem and64 (a b : Nat) (ha : a < 18446744073709551616) (hb : b < 18446744073709551616) : bits .and .u64 (a : Int) (b : Int) = ((a &&& b : Nat) : Int) := u64_and_nat a b ha hb

end Go.Proofs.Ytkfiepiipigcmaa

namespace Go.Proofs.Ytkfiepiipigcmaa
open Go.RowKit Go.ChangeShapes

/-- The source in block sb: it has been read at most c times. -/
def SrcAt (w : World) (sb : Nat) (v : Value) (c : Nat) : Prop := ∃ a S : Nat, a ≤ c ∧ S < 18446744073709551616 ∧ Blk w sb 122 #[v, .int .i64 a, .int .u64 S]

theorem SrcAt.below {w w' : World} {sb : Nat} {v : Value} {c B : Nat} (h : SrcAt w sb v c) (hb : Below B w w') (hB : sb < B) : SrcAt w' sb v c := by
  obtain ⟨a, S, h1, h2, h3⟩ := h; exact ⟨a, S, h1, h2, h3.below hb hB⟩
theorem SrcAt.lt {w : World} {sb : Nat} {v : Value} {c : Nat} (h : SrcAt w sb v c) : sb < w.heap.size := by obtain ⟨a, S, h1, h2, h3⟩ := h; exact h3.lt
theorem SrcAt.mono {w : World} {sb : Nat} {v : Value} {c d : Nat} (h : SrcAt w sb v c) (hc : c ≤ d) : SrcAt w sb v d := by obtain ⟨a, S, h1, h2, h3⟩ := h; exact ⟨a, S, by omega, h2, h3⟩
theorem SrcAt.kept {S : Nat → Prop} {w w' : World} {sb : Nat} {v : Value} {c : Nat} (h : SrcAt w sb v c) (hk : Kept S w w') (hs : ¬ S sb) : SrcAt w' sb v c := by obtain ⟨a, S, h1, h2, h3⟩ := h; exact ⟨a, S, h1, h2, h3.kept hk hs⟩

/-- A draw: the answer lies in its bounds. -/
def DrawE (sb : Nat) (v : Value) (c : Nat) (n : Int) (w : World) (e : Ending) (w' : World) : Prop :=
  ∃ x : Int, 0 ≤ x ∧ x < n ∧ e = .returned (.int .i64 x) ∧ SrcAt w' sb v c ∧ Kept (· = sb) w w'

theorem shr40 (S : Nat) (h : S < 18446744073709551616) : ∃ x : Nat, x < 256 ∧ bits .and .u64 ((S : Int) / 1099511627776) 255 = (x : Int) := by
  refine ⟨(S >>> 40) &&& 255, ?_, ?_⟩
  · rw [show (255 : Nat) = 2 ^ 8 - 1 from rfl, Nat.and_two_pow_sub_one_eq_mod]; omega
  · have a1 : ((S : Int) / (1099511627776 : Int)) = ((S >>> 40 : Nat) : Int) := by rw [Nat.shiftRight_eq_div_pow]; rfl
    have l1 : S >>> 40 < 18446744073709551616 := Nat.lt_of_le_of_lt (Nat.shiftRight_le S 40) h
    rw [a1, show (255 : Int) = ((255 : Nat) : Int) from rfl, and64 _ _ l1 (by decide)]


theorem src_set {w : World} {sb : Nat} {v : Value} {a a' S : Nat} {e : Int} (h : Blk w sb 122 #[v, .int .i64 a, .int .u64 S]) :
    ∃ T : Nat, T < 18446744073709551616 ∧ Blk ((w.setCell ⟨sb, 1, none⟩ (.int .i64 a')).setCell ⟨sb, 2, none⟩ (.int .u64 (IntKind.u64.wrap e))) sb 122 #[v, .int .i64 a', .int .u64 T] := by
  have hw := bounds_u64 (wf_wrap .u64 e)
  refine ⟨(IntKind.u64.wrap e).toNat, by omega, ?_⟩
  have h1 := (h.set 1 (.int .i64 a')).set 2 (.int .u64 (IntKind.u64.wrap e))
  have e1 : (((IntKind.u64.wrap e).toNat : Nat) : Int) = IntKind.u64.wrap e := by omega
  rw [e1]
  simpa using h1

set_option maxHeartbeats 1000000 in
set_option maxRecDepth 4000 in
theorem next_any (W0 : World) (v : Value) (xs : List Int) (hR : RdB W0 v xs) (hw : WfB xs) (sb c : Nat) (w : World) (hb : Below W0.heap.size W0 w) (h : SrcAt w sb v c) (hc : c ≤ 1000000) :
    Calls Try.prog 102 #[.pointer (some ⟨sb, 0, none⟩)] w (DrawE sb v (c + 1) 256 w) := by
  obtain ⟨a, S, ha, hS, hk⟩ := h
  obtain ⟨ad, cap, rfl⟩ := hR.shape
  have hlen := hR.len
  unfold maxLen at hlen
  have d0 : w.cell? ⟨sb, 0, none⟩ = some (.slice ad xs.length cap) := hk.cell 0 rfl
  have d1 : w.cell? ⟨sb, 1, none⟩ = some (.int .i64 a) := hk.cell 1 rfl
  have d2 : w.cell? ⟨sb, 2, none⟩ = some (.int .u64 S) := hk.cell 2 rfl
  have f1 := hk.free 1
  have f2 := hk.free 2
  have HK := Lib.hid hk
  have HR := Lib.hid (hR.up hb (Nat.le_refl _))
  have HS := Lib.hid hS
  clear hR hk hb hS
  by_cases hl : a < xs.length
  · obtain ⟨b, off, rfl, _, hcell⟩ := HR.out.at hl
    obtain ⟨hx0, hx1⟩ := hw.at hl
    obtain ⟨x, hx⟩ : ∃ x, x = xs.getD a 0 := ⟨_, rfl⟩
    rw [← hx] at hcell hx0 hx1
    clear hx hw
    have k1 : (a : Int) < (xs.length : Int) := by omega
    have k2 : (a : Int) + 1 ≤ (xs.length : Int) := by omega
    go_enter Try.func102, Try.ntmps102
    go_wp2_with fail
    go_quiet (fail)
    go_wp2_with fail
    go_quiet (fail)
    go_upto_region 6 with fail
    refine wp_at fun W hW => ?_
    have HW : Hid (∃ T : Nat, T < 18446744073709551616 ∧ Blk W sb 122 #[.slice (some ⟨b, off, none⟩) xs.length cap, .int .i64 ((a + 1 : Nat) : Int), .int .u64 T]) := by subst hW; exact src_set (w := w.drewN _) HK.out
    have HKP := Lib.hid (show Kept (· = sb) w W by subst hW; exact (((Kept.refl (· = sb) w).drewN _).setCell (.inr rfl) _).setCell (.inr rfl) _)
    clear hW d0 d1 d2 f1 f2 hcell
    obtain ⟨T, hT, hB⟩ := HW.out
    have d0 : W.cell? ⟨sb, 0, none⟩ = some (.slice (some ⟨b, off, none⟩) xs.length cap) := hB.cell 0 rfl
    have d1 : W.cell? ⟨sb, 1, none⟩ = some (.int .i64 ((a + 1 : Nat) : Int)) := hB.cell 1 rfl
    have HT := Lib.hid hT
    have HB := Lib.hid hB
    have k3 : ((a + 1 : Nat) : Int) ≤ (xs.length : Int) := by omega
    clear hT hB
    go_quiet (fail)
    go_wp2_with fail
    go_ret
    exact ⟨x, hx0, by omega, rfl, ⟨a + 1, T, by omega, HT.out, HB.out⟩, HKP.out.drewN _⟩
  · have k1 : ¬ (a : Int) < (xs.length : Int) := by omega
    have k2 : (xs.length : Int) ≤ (a : Int) := by omega
    clear hl
    go_enter Try.func102, Try.ntmps102
    go_wp2_with fail
    go_quiet (fail)
    go_upto_region 6 with fail
    refine wp_at fun W hW => ?_
    have HW : Hid (∃ T : Nat, T < 18446744073709551616 ∧ Blk W sb 122 #[.slice ad xs.length cap, .int .i64 ((a + 1 : Nat) : Int), .int .u64 T]) := by subst hW; exact src_set (w := w.drewN _) HK.out
    have HKP := Lib.hid (show Kept (· = sb) w W by subst hW; exact (((Kept.refl (· = sb) w).drewN _).setCell (.inr rfl) _).setCell (.inr rfl) _)
    clear hW d0 d1 d2 f1 f2
    obtain ⟨T, hT, hB⟩ := HW.out
    have d0 : W.cell? ⟨sb, 0, none⟩ = some (.slice ad xs.length cap) := hB.cell 0 rfl
    have d1 : W.cell? ⟨sb, 1, none⟩ = some (.int .i64 ((a + 1 : Nat) : Int)) := hB.cell 1 rfl
    have d2 : W.cell? ⟨sb, 2, none⟩ = some (.int .u64 T) := hB.cell 2 rfl
    obtain ⟨x, hx1, hx2⟩ := shr40 T hT
    have HT := Lib.hid hT
    have HB := Lib.hid hB
    have k3 : (xs.length : Int) < ((a + 1 : Nat) : Int) := by omega
    clear hT hB
    go_quiet (fail)
    go_wp2_with fail
    go_ret
    exact ⟨x, by omega, by omega, rfl, ⟨a + 1, T, by omega, HT.out, HB.out⟩, HKP.out.drewN _⟩

set_option maxHeartbeats 1000000 in
theorem pick_any (W0 : World) (v : Value) (xs : List Int) (hR : RdB W0 v xs) (hw : WfB xs) (sb c : Nat) (w : World) (hsb : W0.heap.size ≤ sb) (hb : Below W0.heap.size W0 w) (h : SrcAt w sb v c) (hc : c ≤ 999990) (n : Int) (h1 : 1 ≤ n) (h2 : n ≤ 65536) :
    Calls Try.prog 67 #[.pointer (some ⟨sb, 0, none⟩), .int .i64 n] w (DrawE sb v (c + 2) n w) := by
  have HR := Lib.hid hR
  have HW := Lib.hid hw
  have HB := Lib.hid hb
  have HS := Lib.hid h
  clear hR hw hb h
  by_cases hn : n ≤ 1
  · go_enter Try.func67, Try.ntmps67
    go_wp2_with fail
    go_ret
    exact ⟨0, by omega, by omega, rfl, HS.out.mono (by omega), Kept.refl _ _⟩
  by_cases hm : n ≤ 200
  · go_enter Try.func67, Try.ntmps67
    go_wp2_with fail
    refine (next_any W0 v xs HR.out HW.out sb c w HB.out HS.out (by omega)).mono ?_
    rintro e w1 ⟨x, hx0, hx1, rfl, hs, hk⟩
    have HS1 := Lib.hid hs
    have HK1 := Lib.hid hk
    clear hs hk
    go_wp2_with fail
    go_ret
    exact ⟨x % n, Int.emod_nonneg _ (by omega), Int.emod_lt_of_pos _ (by omega), rfl, HS1.out.mono (by omega), HK1.out⟩
  · go_enter Try.func67, Try.ntmps67
    go_wp2_with fail
    refine (next_any W0 v xs HR.out HW.out sb c w HB.out HS.out (by omega)).mono ?_
    rintro e w1 ⟨x, hx0, hx1, rfl, hs, hk⟩
    have HS1 := Lib.hid hs
    have HK1 := Lib.hid hk
    have HB1 := Lib.hid (HB.out.trans (hk.toBelow HB.out.size (by intro k h1 h2; omega)))
    clear hs hk
    go_wp2_with fail
    refine (next_any W0 v xs HR.out HW.out sb (c + 1) w1 HB1.out HS1.out (by omega)).mono ?_
    rintro e w2 ⟨y, hy0, hy1, rfl, hs, hk⟩
    have HS2 := Lib.hid hs
    have HK2 := Lib.hid hk
    clear hs hk
    go_wp2_with fail
    go_ret
    exact ⟨(x * 256 + y) % n, Int.emod_nonneg _ (by omega), Int.emod_lt_of_pos _ (by omega), rfl, HS2.out.mono (by omega), HK1.out.trans HK2.out⟩

set_option maxHeartbeats 400000 in
theorem l00From_any (v : Value) (xs : List Int) (w : World) (hR : RdB w v xs) :
    Calls Try.prog 59 #[v] w fun e w' => e = .returned (.pointer (some ⟨w.heap.size, 0, none⟩)) ∧ SrcAt w' w.heap.size v 0 ∧ Below w.heap.size w w' := by
  obtain ⟨ad, cap, rfl⟩ := hR.shape
  clear hR
  go_enter Try.func59, Try.ntmps59
  go_wp2_with fail
  go_ret
  exact ⟨rfl, ⟨0, 0, Nat.le_refl _, by decide, Blk.new _ _ _⟩, by (repeat' first | exact Below.refl _ _ | assumption | refine Below.alloc ?_ ?_ _ | refine Below.setCell ?_ ?_ _ | refine Below.drew ?_ | (simp; done) | (simp; omega))⟩

end Go.Proofs.Ytkfiepiipigcmaa

namespace Go.Proofs.Ytkfiepiipigcmaa
open Go.RowKit

/-! ### append of one span -/
theorem spansC_snoc (ps : List SpanD) (j : SpanD) : spansC (ps ++ [j]) = spansC ps ++ spanCells j := by simp [spansC]
theorem owns3_shape {w : World} {base n : Nat} {v : Value} {vs : List Value} (h : w.ownsRow base 41 3 v n vs) : ∃ a cap, v = .slice a n cap := by
  rcases h.2 with ⟨rfl, e⟩ | ⟨g, cap, cur, rfl, _⟩
  · subst e
    exact ⟨none, 0, rfl⟩
  · exact ⟨_, _, rfl⟩
theorem belowP_grown {w w' : World} {base n size : Nat} {e : TypeId} {v : Value} {vs : List Value} (h : w.ownsRow base e size v n vs) (hbase : base ≤ w.heap.size) (hg : w.grownBy w' v.ownBlock) : Below base w w' :=
  ⟨hg.os, hg.tape, hg.output, hg.size, fun k hk => hg.block k (by omega) fun e => by
    have := (h.lt k e.symm).1
    omega⟩
theorem run_app_span {w : World} (t : TypeId) (base : Nat) (v : Value) (n : Nat) (ps : List SpanD) (hown : w.ownsRow base 41 3 v n (spansC ps))
    (j : SpanD) (b : Nat) (hblk : Blk w b 41 #[.int .i64 j.start, .int .i64 j.stop, .int .i64 j.gain]) (hlen : n ≤ 1048576) (hbase : base ≤ w.heap.size) :
    ∃ a' cap' w', (Builtin.append_ #[27, 27] t #[v, .slice (some ⟨b, 0, none⟩) 1 1]).run Try.prog w = .ok (.slice a' (n + 1) cap') w' ∧ w'.ownsRow base 41 3 (.slice a' (n + 1) cap') (n + 1) (spansC (ps ++ [j])) ∧ Below base w w' := by
  obtain ⟨i0, hi, hz0, hz1, hz2⟩ := info_parts Try.infoSpan
  have hc : ∀ t u, (spanCells j)[t]? = some u → w.cell? ((⟨b, 0, none⟩ : Addr).add t) = some u := by
    intro t u ht
    have h1 : w.heap[b]? = some (.cells #[.int .i64 j.start, .int .i64 j.stop, .int .i64 j.gain] 41) := hblk
    have h2 : ((⟨b, 0, none⟩ : Addr).add t) = ⟨b, t, none⟩ := by unfold Addr.add; split <;> simp_all
    rw [h2]
    simp only [World.cell?, h1]
    simpa [spanCells, I64] using ht
  obtain ⟨v', w', hr, h2, h3, _, h5⟩ := run_append_own_at (P := Try.prog) w base 27 t 41 i0 (.agg #[.int .i64 0, .int .i64 0, .int .i64 0]) 3 24 Try.underlying27 hi hz0 hz1 hz2 rfl (by decide) v n (spansC ps) hown ⟨b, 0, none⟩ 1 1 (spanCells j) rfl hc (by intro y hy; simp only [spanCells, List.mem_cons, List.not_mem_nil, or_false] at hy; rcases hy with rfl | rfl | rfl <;> rfl) (by unfold maxLen; omega) (by omega) hbase
  obtain ⟨a', cap', rfl⟩ := owns3_shape h2
  refine ⟨a', cap', w', hr, ?_, belowP_grown hown hbase h3⟩
  rw [spansC_snoc]
  exact h2
/-- Append of one span to what the call owns, in a drawn region. -/
theorem step_app_span {w : World} {ops : Array Oper} {o : Oper} {a : Act} {K : Act → World → Prop} {Q : Exit → Act → World → Prop} {E : Prop} (hgd : o.guard = none) (s x : Operand)
    (ho : o.op = .call { callee := .builtin .append, args := #[s, x], argTypes := #[27, 27] })
    (base : Nat) (v : Value) (n : Nat) (ps : List SpanD) (hs : a.eval s = v) (hown : w.ownsRow base 41 3 v n (spansC ps))
    (j : SpanD) (b : Nat) (hblk : Blk w b 41 #[.int .i64 j.start, .int .i64 j.stop, .int .i64 j.gain]) (hx : a.eval x = .slice (some ⟨b, 0, none⟩) 1 1)
    (m : Nat) (ys : List SpanD) (hm : m = n + 1) (hys : ys = ps ++ [j]) (hlen : n ≤ 1048576) (hbase : base ≤ w.heap.size)
    (h : ∀ a' cap' w', w'.ownsRow base 41 3 (.slice a' m cap') m (spansC ys) → Below base w w' → K (a.put o.dst (.slice a' m cap')) w') :
    if Region.wanted o (yielded ops a.tmps) = true then Oper.wp Try.prog o a w K Q else E := by
  have hwt : Region.wanted o (yielded ops a.tmps) = true := by simp [Region.wanted, hgd]
  rw [if_pos hwt]
  subst hm hys
  obtain ⟨a', cap', w', hr, h2, h3⟩ := run_app_span o.type base v n ps hown j b hblk hlen hbase
  unfold Oper.wp execOp
  simp only [ho, resolve, invoke, builtin, Sem.run_bind, Sem.run_pure, Result.andThen_ok, List.map_toArray, List.map_cons, List.map_nil, hs, hx, hr]
  exact h a' cap' w' h2 h3
theorem ownP_empty (w : World) (b : Nat) (hb : b = w.heap.size) : (w.alloc (.cells #[] 41)).ownsRow w.heap.size 41 3 (.slice (some ⟨b, 0, none⟩) 0 0) 0 (spansC []) := by
  subst hb
  exact World.ownsRow_lit (base := w.heap.size) (e := 41) (size := 3) w #[] 0 (Nat.le_refl _) (by simp [maxLen]) rfl

/-! ### the laws' choice of a number -/
def isLong8 (a b : List Int) : Bool := decide (48 < (a.length : Int)) || decide (48 < (b.length : Int))
theorem r8Long_any (v v' : Value) (xs ys : List Int) (w : World) (h : RdB w v xs) (h' : RdB w v' ys) :
    Calls Try.prog 20 #[v, v'] w fun e w' => e = .returned (.bool (isLong8 xs ys)) ∧ w = w' := by
  obtain ⟨a, c, rfl⟩ := h.shape
  obtain ⟨a', c', rfl⟩ := h'.shape
  clear h h'
  by_cases h1 : 48 < (xs.length : Int)
  · go_enter Try.func20, Try.ntmps20
    go_wp2_with fail
    go_ret
    exact ⟨by simp [isLong8, h1], rfl⟩
  · go_enter Try.func20, Try.ntmps20
    go_wp2_with fail
    go_ret
    exact ⟨by congr 2; simp [isLong8, h1]; omega, rfl⟩
set_option maxHeartbeats 400000 in
theorem r8At_any (v : Value) (xs : List Int) (i n : Int) (w : World) (h : RdB w v xs) (hw : WfB xs) (h0 : 0 ≤ i) (h1 : i ≤ 1000000) (n1 : 1 ≤ n) (n2 : n ≤ 1000) :
    Calls Try.prog 21 #[v, .int .i64 i, .int .i64 n] w (PickE n w) := by
  obtain ⟨a, c, rfl⟩ := h.shape
  by_cases hn : n ≤ 1
  · clear h
    go_enter Try.func21, Try.ntmps21
    go_wp2_with fail
    go_ret
    exact ⟨0, by omega, by omega, rfl, rfl⟩
  · by_cases hl : i < (xs.length : Int)
    · obtain ⟨k, rfl⟩ := Int.eq_ofNat_of_zero_le h0
      have hk : k < xs.length := by omega
      obtain ⟨b, off, rfl, _, hc⟩ := h.at hk
      obtain ⟨hx0, hx1⟩ := hw.at hk
      obtain ⟨x, hx⟩ : ∃ x, x = xs.getD k 0 := ⟨_, rfl⟩
      rw [← hx] at hc hx0 hx1
      have hle := h.len
      unfold maxLen at hle
      clear hx h hw
      go_enter Try.func21, Try.ntmps21
      go_wp2_with fail
      go_ret
      exact ⟨x % n, Int.emod_nonneg _ (by omega), Int.emod_lt_of_pos _ (by omega), rfl, rfl⟩
    · clear h
      go_enter Try.func21, Try.ntmps21
      go_wp2_with fail
      go_ret
      exact ⟨0, by omega, by omega, rfl, rfl⟩

/-! ### drawn spans -/
set_option maxHeartbeats 2000000 in
set_option maxRecDepth 4000 in
theorem l06DrawSpans_any (W0 : World) (v : Value) (bs : List Int) (hR : RdB W0 v bs) (hw : WfB bs) (sb c : Nat) (w : World) (hsb : W0.heap.size ≤ sb) (hb : Below W0.heap.size W0 w) (h : SrcAt w sb v c) (hc : c ≤ 1000) (n : Nat) (hn : n ≤ 64) :
    Calls Try.prog 60 #[.pointer (some ⟨sb, 0, none⟩), .int .i64 n] w fun e w' => ∃ (ps : List SpanD) (v' : Value), ps.length = n ∧ (∀ i, i < n → spanB (ps.getD i P0) = true) ∧ e = .returned v' ∧ OwnP w.heap.size w'.heap.size w' v' ps ∧ Kept (· = sb) w w' := by
  have HR := Lib.hid hR
  have HW := Lib.hid hw
  have HB := Lib.hid hb
  have HS := Lib.hid h
  have hsw := h.lt
  clear hR hw hb h
  go_enter Try.func60, Try.ntmps60
  go_wp2_with fail
  go_loopw [1, 5] (fun nv ov wr => ∃ (j : Nat) (ps : List SpanD) (oa : Option Addr) (oc m : Nat), nv = .int .i64 j ∧ Hid (ps.length = m) ∧ m + j = n ∧ ov = .slice oa m oc ∧ Hid (wr.ownsRow w.heap.size 41 3 (.slice oa m oc) m (spansC ps)) ∧ Hid (∀ i, i < m → spanB (ps.getD i P0) = true) ∧ Hid (SrcAt wr sb v (c + 6 * m)) ∧ Hid (Kept (· = sb) w wr)) (fun nv _ _ => (intOf nv).toNat)
  case atStart => exact ⟨n, [], _, 0, 0, rfl, Lib.hid rfl, by omega, rfl, Lib.hid (ownP_empty _ _ rfl), Lib.hid (by intro i hi; omega), Lib.hid (HS.out.below ((Below.refl _ _).alloc (Nat.le_refl _) _) hsw), Lib.hid ((Kept.refl _ _).alloc _)⟩
  case round =>
    obtain ⟨j, ps, oa, oc, m, rfl, HL, hmj, rfl, HO, HA, HS2, HK⟩ := hrel
    obtain ⟨wo, rfl⟩ : ∃ wo, wo = wr := ⟨wr, rfl⟩
    have hszo := HK.out.size
    have HB2 := Lib.hid (HB.out.trans (HK.out.toBelow HB.out.size (fun k h1 h2 => by omega)))
    by_cases hj : 0 < j
    · have hjI : (0 : Int) < (j : Int) := by omega
      go_upto_region 5 with (go_at_call 67; refine (pick_any W0 v bs HR.out HW.out sb (c + 6 * m) wo hsb HB2.out HS2.out (by omega) 20 (by omega) (by omega)).mono ?_; rintro e w1 ⟨x, hx0, hx1, rfl, hs, hk⟩)
      refine wp_at fun W hW => ?_
      have hz1 := hk.size
      have HKP := Lib.hid (show Blk W w1.heap.size 41 #[.int .i64 x, .int .i64 0, .int .i64 0] by subst hW; exact Blk.new _ _ _)
      have HKW := Lib.hid (show Kept (· = sb) wo W by subst hW; exact hk.alloc _)
      have HSW := Lib.hid (show SrcAt W sb v (c + 6 * m + 2) by subst hW; exact hs.below ((Below.refl _ _).alloc (Nat.le_refl _) _) hs.lt)
      have HBW := Lib.hid (HB2.out.trans (HKW.out.toBelow HB2.out.size (fun k h1 h2 => by omega)))
      clear hW hs hk
      have hsz1 := HKW.out.size
      have hsb1 : sb < w1.heap.size := by omega
      obtain ⟨p, hp⟩ : ∃ p, p = w1.heap.size := ⟨_, rfl⟩
      rw [← hp] at HKP ⊢
      have hpw : wo.heap.size ≤ p := by rw [hp]; exact hz1
      have hps : p ≠ sb := by omega
      have hpl := HKP.out.lt
      clear hp hsb1
      have d0 : W.cell? ⟨p, 0, none⟩ = some (.int .i64 x) := HKP.out.cell 0 rfl
      have d1 : W.cell? ⟨p, 1, none⟩ = some (.int .i64 0) := HKP.out.cell 1 rfl
      have f1 := HKP.out.free 1
      have hw1 : IntKind.i64.wrap (x + 1) = x + 1 := IntWalk.i64_in _ (by omega)
      go_region_with (go_at_call 67; refine (pick_any W0 v bs HR.out HW.out sb (c + 6 * m + 2) _ hsb (by first | exact HBW.out | exact HBW.out.drew) (by exact HSW.out) (by omega) 8 (by omega) (by omega)).mono ?_; rintro e w3 ⟨y, hy0, hy1, rfl, hs3, hk3⟩; have hk4 : Kept (· = sb) W w3 := (by first | exact hk3 | exact ((Kept.refl (· = sb) W).drew).trans hk3); have HKP3 := HKP.out.kept hk4 hps; have d03 := HKP3.cell 0 rfl; have d13 := HKP3.cell 1 rfl; have f13 := HKP3.free 1)
      all_goals
        rw [show IntKind.i64.wrap (x + 1 + y) = x + 1 + y from IntWalk.i64_in _ (by omega)]
        generalize hW4 : w3.setCell ⟨p, 1, none⟩ (Value.int IntKind.i64 (x + 1 + y)) = W4
        have HKP4 := Lib.hid (show Blk W4 p 41 #[.int .i64 x, .int .i64 (x + 1 + y), .int .i64 0] by subst hW4; simpa using HKP3.set 1 (.int .i64 (x + 1 + y)))
        have HS4 := Lib.hid (show SrcAt W4 sb v (c + 6 * m + 4) by subst hW4; exact SrcAt.kept hs3 (Kept.setCell (S := fun b => b = p) (Kept.refl _ w3) (p := ⟨p, 1, none⟩) (.inr rfl) _) (fun e => hps e.symm))
        have HK4 := Lib.hid (show Kept (· = sb) wo W4 by subst hW4; exact (HKW.out.trans hk4).setCell (.inl hpw) _)
        have HB4 := Lib.hid (HB2.out.trans (HK4.out.toBelow HB2.out.size (fun k h1 h2 => by omega)))
        clear hW4 d03 d13 f13 HKP3 hk3 hk4 hs3 d0 d1 f1 hw1
        go_upto_region 7 with (go_at_call 67; refine (pick_any W0 v bs HR.out HW.out sb (c + 6 * m + 4) W4 hsb HB4.out HS4.out (by omega) 10 (by omega) (by omega)).mono ?_; rintro e w5 ⟨z, hz0, hz1', rfl, hs5, hk5⟩; have HKP5 := HKP4.out.kept hk5 hps; have d5 := HKP5.cell 2 rfl; have f5 := HKP5.free 2)
        refine wp_at fun W6 hW6 => ?_
        have HKP6 := Lib.hid (show Blk W6 p 41 #[.int .i64 x, .int .i64 (x + 1 + y), .int .i64 z] by subst hW6; simpa using HKP5.set 2 (.int .i64 z))
        have HS6 := Lib.hid (show SrcAt W6 sb v (c + 6 * (m + 1)) by subst hW6; exact (SrcAt.kept hs5 (Kept.setCell (S := fun b => b = p) (Kept.refl _ w5) (p := ⟨p, 2, none⟩) (.inr rfl) _) (fun e => hps e.symm)).mono (by omega))
        have HK6 := Lib.hid (show Kept (· = sb) wo W6 by subst hW6; exact (HK4.out.trans hk5).setCell (.inl hpw) _)
        clear hW6 d5 f5 HKP5 hk5 hs5
        have d0 := HKP6.out.cell 0 rfl
        have d1 := HKP6.out.cell 1 rfl
        have d2 := HKP6.out.cell 2 rfl
        have hsz6 := HK6.out.size
        have HO6 := Lib.hid (ownsK_kept HO.out HK6.out (fun g hg e => by have := (HO.out.lt g hg).1; omega))
        have HRUN := Lib.hid (run_app_span (w := W6.alloc (.cells #[.int .i64 x, .int .i64 (x + 1 + y), .int .i64 z] 41)) 27 w.heap.size (.slice oa m oc) m ps (ownsK_below HO6.out ((Below.refl _ _).alloc (Nat.le_refl _) _) (Nat.le_refl _)) ⟨x, x + 1 + y, z⟩ W6.heap.size (Blk.new _ _ _) (by omega) (by simp; omega))
        obtain ⟨a7, c7, w7, hr7, ho7, hb7⟩ := HRUN.out
        have HR7 := Lib.hid hr7
        clear hr7 HRUN
        go_wp2_with (at_builtin; refine Lib.wpList_append_run _ rfl _ _ 27 27 rfl _ _ rfl rfl _ _ HR7.out ?_)
        have HB7 := Lib.hid (((Below.refl w.heap.size W6).alloc (by omega) _).trans hb7)
        go_roundw
        case rel => exact ⟨j - 1, ps ++ [⟨x, x + 1 + y, z⟩], a7, c7, m + 1, by rw [show ((j - 1 : Nat) : Int) = (j : Int) - 1 by omega], Lib.hid (by rw [List.length_append, HL.out]; rfl), by omega, rfl, Lib.hid ho7, Lib.hid (fun i hi => by
          by_cases e : i = m
          · rw [e, List.getD_eq_getElem?_getD, List.getElem?_append_right (by rw [HL.out]; exact Nat.le_refl _), HL.out, Nat.sub_self]
            show spanB ⟨x, x + 1 + y, z⟩ = true
            unfold spanB
            simp only [Bool.and_eq_true, inB_iff, decide_eq_true_eq]
            omega
          · have := HA.out i (by omega)
            rw [List.getD_eq_getElem?_getD] at this ⊢
            rw [List.getElem?_append_left (by rw [HL.out]; omega)]
            exact this), Lib.hid (HS6.out.below HB7.out hsw), Lib.hid ((HK.out.trans HK6.out).below HB7.out (Nat.le_refl _))⟩
        case measure => simp [intOf]; omega
    · obtain rfl : j = 0 := by omega
      obtain rfl : m = n := by omega
      go_wp2_with fail
      go_ret
      exact ⟨ps, _, HL.out, HA.out, rfl, by rw [← HL.out] at HO ⊢; exact OwnP.mk HO.out, HK.out⟩

set_option maxHeartbeats 1000000 in
theorem R8Spans_any (v : Value) (bs : List Int) (w : World) (hR : RdB w v bs) (hw : WfB bs) (n : Nat) (h1 : 1 ≤ n) (hn : n ≤ 64) :
    Calls Try.prog 22 #[v, .int .i64 n] w fun e w' => ∃ (ps : List SpanD) (v' : Value), ps.length = n ∧ areSpansB ps = true ∧ e = .returned v' ∧ OwnP w.heap.size w'.heap.size w' v' ps ∧ Below w.heap.size w w' := by
  have HR := Lib.hid hR
  have HW := Lib.hid hw
  have HF := Lib.hid (l00From_any v bs w hR)
  clear hR hw
  go_enter Try.func22, Try.ntmps22
  go_wp2_with fail
  refine HF.out.mono ?_
  rintro e w1 ⟨rfl, hs, hb1⟩
  have HS1 := Lib.hid hs
  have HB1 := Lib.hid hb1
  clear hs hb1 HF
  go_wp2_with fail
  refine (l06DrawSpans_any w v bs HR.out HW.out w.heap.size 0 w1 (Nat.le_refl _) HB1.out HS1.out (by omega) n hn).mono ?_
  rintro e w2 ⟨ps, v', hl, ha, rfl, ho, hk⟩
  have hz := HB1.out.size
  have HB2 := Lib.hid (HB1.out.trans (hk.toBelow hz (fun k h1 h2 => by omega)))
  have HO := Lib.hid (ho.wide hz (Nat.le_refl _))
  have HA := Lib.hid (show areSpansB ps = true by
    unfold areSpansB
    rw [Bool.and_eq_true, allB_iff, inB_iff]
    exact ⟨by omega, fun i hi => ha i (by omega)⟩)
  have HL := Lib.hid hl
  clear hk ho ha hl
  go_wp2_with fail
  go_ret
  exact ⟨ps, v', HL.out, HA.out, rfl, HO.out, HB2.out⟩

end Go.Proofs.Ytkfiepiipigcmaa
