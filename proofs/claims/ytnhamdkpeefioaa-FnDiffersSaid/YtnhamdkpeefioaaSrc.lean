/-
  The source of choices that the statements draw from: whatever it holds, a choice lies in its bounds.
-/
import Derived.Test.YtnhamdkpeefioaaBytes
import Derived.Test.YtnhamdkpeefioaaDigits
import Derived.Test.YtnhamdkpeefioaaHas
namespace Go.Proofs.Ytnhamdkpeefioaa
open Go.RowKit Go.ChangeShapes

/-- The source in block sb: it has been read at most c times. -/
def SrcAt (w : World) (sb : Nat) (v : Value) (c : Nat) : Prop := ∃ a S : Nat, a ≤ c ∧ S < 18446744073709551616 ∧ Blk w sb 161 #[v, .int .i64 a, .int .u64 S]

theorem SrcAt.below {w w' : World} {sb : Nat} {v : Value} {c B : Nat} (h : SrcAt w sb v c) (hb : Below B w w') (hB : sb < B) : SrcAt w' sb v c := by
  obtain ⟨a, S, h1, h2, h3⟩ := h; exact ⟨a, S, h1, h2, h3.below hb hB⟩
theorem SrcAt.lt {w : World} {sb : Nat} {v : Value} {c : Nat} (h : SrcAt w sb v c) : sb < w.heap.size := by obtain ⟨a, S, h1, h2, h3⟩ := h; exact h3.lt
theorem SrcAt.mono {w : World} {sb : Nat} {v : Value} {c d : Nat} (h : SrcAt w sb v c) (hc : c ≤ d) : SrcAt w sb v d := by obtain ⟨a, S, h1, h2, h3⟩ := h; exact ⟨a, S, by omega, h2, h3⟩
theorem SrcAt.kept {S : Nat → Prop} {w w' : World} {sb : Nat} {v : Value} {c : Nat} (h : SrcAt w sb v c) (hk : Kept S w w') (hs : ¬ S sb) : SrcAt w' sb v c := by obtain ⟨a, S, h1, h2, h3⟩ := h; exact ⟨a, S, h1, h2, h3.kept hk hs⟩

/-- A draw: the answer lies in its bounds. -/
def DrawE (sb : Nat) (v : Value) (c : Nat) (n : Int) (w : World) (e : Ending) (w' : World) : Prop :=
  ∃ x : Int, 0 ≤ x ∧ x < n ∧ e = .returned (.int .i64 x) ∧ SrcAt w' sb v c ∧ Kept (· = sb) w w'

theorem shr40 (S : Nat) (h : S < 18446744073709551616) : ∃ x : Nat, x < 256 ∧ bits .and .u64 ((S : Int) / 1099511627776) 255 = (x : Int) := by
  refine ⟨(S >>> 40) &&& 255, ?_, ?_⟩
  · rw [show (255 : Nat) = 2 ^ 8 - 1 from rfl, Nat.and_two_pow_sub_one_eq_mod]; omega
  · have a1 : ((S : Int) / (1099511627776 : Int)) = ((S >>> 40 : Nat) : Int) := by rw [Nat.shiftRight_eq_div_pow]; rfl
    have l1 : S >>> 40 < 18446744073709551616 := Nat.lt_of_le_of_lt (Nat.shiftRight_le S 40) h
    rw [a1, show (255 : Int) = ((255 : Nat) : Int) from rfl, and64 _ _ l1 (by decide)]


theorem src_set {w : World} {sb : Nat} {v : Value} {a a' S : Nat} {e : Int} (h : Blk w sb 161 #[v, .int .i64 a, .int .u64 S]) :
    ∃ T : Nat, T < 18446744073709551616 ∧ Blk ((w.setCell ⟨sb, 1, none⟩ (.int .i64 a')).setCell ⟨sb, 2, none⟩ (.int .u64 (IntKind.u64.wrap e))) sb 161 #[v, .int .i64 a', .int .u64 T] := by
  have hw := bounds_u64 (wf_wrap .u64 e)
  refine ⟨(IntKind.u64.wrap e).toNat, by omega, ?_⟩
  have h1 := (h.set 1 (.int .i64 a')).set 2 (.int .u64 (IntKind.u64.wrap e))
  have e1 : (((IntKind.u64.wrap e).toNat : Nat) : Int) = IntKind.u64.wrap e := by omega
  rw [e1]
  simpa using h1

set_option maxHeartbeats 1000000 in
set_option maxRecDepth 4000 in
theorem next_any (W0 : World) (v : Value) (xs : List Int) (hR : RdB W0 v xs) (hw : WfB xs) (sb c : Nat) (w : World) (hb : Below W0.heap.size W0 w) (h : SrcAt w sb v c) (hc : c ≤ 1000000) :
    Calls Try.prog 152 #[.pointer (some ⟨sb, 0, none⟩)] w (DrawE sb v (c + 1) 256 w) := by
  obtain ⟨a, S, ha, hS, hk⟩ := h
  obtain ⟨ad, cap, rfl⟩ := hR.shape
  have hlen := hR.len
  unfold maxLen at hlen
  have d0 : w.cell? ⟨sb, 0, none⟩ = some (.slice ad xs.length cap) := hk.cell 0 rfl
  have d1 : w.cell? ⟨sb, 1, none⟩ = some (.int .i64 a) := hk.cell 1 rfl
  have d2 : w.cell? ⟨sb, 2, none⟩ = some (.int .u64 S) := hk.cell 2 rfl
  have f1 := hk.free 1
  have f2 := hk.free 2
  have HK := Lib.hid hk
  have HR := Lib.hid (hR.up hb (Nat.le_refl _))
  have HS := Lib.hid hS
  clear hR hk hb hS
  by_cases hl : a < xs.length
  · obtain ⟨b, off, rfl, _, hcell⟩ := HR.out.at hl
    obtain ⟨hx0, hx1⟩ := hw.at hl
    obtain ⟨x, hx⟩ : ∃ x, x = xs.getD a 0 := ⟨_, rfl⟩
    rw [← hx] at hcell hx0 hx1
    clear hx hw
    have k1 : (a : Int) < (xs.length : Int) := by omega
    have k2 : (a : Int) + 1 ≤ (xs.length : Int) := by omega
    go_enter Try.func152, Try.ntmps152
    go_wp2_with fail
    go_quiet (fail)
    go_wp2_with fail
    go_quiet (fail)
    go_upto_region 6 with fail
    refine wp_at fun W hW => ?_
    have HW : Hid (∃ T : Nat, T < 18446744073709551616 ∧ Blk W sb 161 #[.slice (some ⟨b, off, none⟩) xs.length cap, .int .i64 ((a + 1 : Nat) : Int), .int .u64 T]) := by subst hW; exact src_set (w := w.drewN _) HK.out
    have HKP := Lib.hid (show Kept (· = sb) w W by subst hW; exact (((Kept.refl (· = sb) w).drewN _).setCell (.inr rfl) _).setCell (.inr rfl) _)
    clear hW d0 d1 d2 f1 f2 hcell
    obtain ⟨T, hT, hB⟩ := HW.out
    have d0 : W.cell? ⟨sb, 0, none⟩ = some (.slice (some ⟨b, off, none⟩) xs.length cap) := hB.cell 0 rfl
    have d1 : W.cell? ⟨sb, 1, none⟩ = some (.int .i64 ((a + 1 : Nat) : Int)) := hB.cell 1 rfl
    have HT := Lib.hid hT
    have HB := Lib.hid hB
    have k3 : ((a + 1 : Nat) : Int) ≤ (xs.length : Int) := by omega
    clear hT hB
    go_quiet (fail)
    go_wp2_with fail
    go_ret
    exact ⟨x, hx0, by omega, rfl, ⟨a + 1, T, by omega, HT.out, HB.out⟩, HKP.out.drewN _⟩
  · have k1 : ¬ (a : Int) < (xs.length : Int) := by omega
    have k2 : (xs.length : Int) ≤ (a : Int) := by omega
    clear hl
    go_enter Try.func152, Try.ntmps152
    go_wp2_with fail
    go_quiet (fail)
    go_upto_region 6 with fail
    refine wp_at fun W hW => ?_
    have HW : Hid (∃ T : Nat, T < 18446744073709551616 ∧ Blk W sb 161 #[.slice ad xs.length cap, .int .i64 ((a + 1 : Nat) : Int), .int .u64 T]) := by subst hW; exact src_set (w := w.drewN _) HK.out
    have HKP := Lib.hid (show Kept (· = sb) w W by subst hW; exact (((Kept.refl (· = sb) w).drewN _).setCell (.inr rfl) _).setCell (.inr rfl) _)
    clear hW d0 d1 d2 f1 f2
    obtain ⟨T, hT, hB⟩ := HW.out
    have d0 : W.cell? ⟨sb, 0, none⟩ = some (.slice ad xs.length cap) := hB.cell 0 rfl
    have d1 : W.cell? ⟨sb, 1, none⟩ = some (.int .i64 ((a + 1 : Nat) : Int)) := hB.cell 1 rfl
    have d2 : W.cell? ⟨sb, 2, none⟩ = some (.int .u64 T) := hB.cell 2 rfl
    obtain ⟨x, hx1, hx2⟩ := shr40 T hT
    have HT := Lib.hid hT
    have HB := Lib.hid hB
    have k3 : (xs.length : Int) < ((a + 1 : Nat) : Int) := by omega
    clear hT hB
    go_quiet (fail)
    go_wp2_with fail
    go_ret
    exact ⟨x, by omega, by omega, rfl, ⟨a + 1, T, by omega, HT.out, HB.out⟩, HKP.out.drewN _⟩

set_option maxHeartbeats 1000000 in
theorem pick_any (W0 : World) (v : Value) (xs : List Int) (hR : RdB W0 v xs) (hw : WfB xs) (sb c : Nat) (w : World) (hsb : W0.heap.size ≤ sb) (hb : Below W0.heap.size W0 w) (h : SrcAt w sb v c) (hc : c ≤ 999990) (n : Int) (h1 : 1 ≤ n) (h2 : n ≤ 65536) :
    Calls Try.prog 81 #[.pointer (some ⟨sb, 0, none⟩), .int .i64 n] w (DrawE sb v (c + 2) n w) := by
  have HR := Lib.hid hR
  have HW := Lib.hid hw
  have HB := Lib.hid hb
  have HS := Lib.hid h
  clear hR hw hb h
  by_cases hn : n ≤ 1
  · go_enter Try.func81, Try.ntmps81
    go_wp2_with fail
    go_ret
    exact ⟨0, by omega, by omega, rfl, HS.out.mono (by omega), Kept.refl _ _⟩
  by_cases hm : n ≤ 200
  · go_enter Try.func81, Try.ntmps81
    go_wp2_with fail
    refine (next_any W0 v xs HR.out HW.out sb c w HB.out HS.out (by omega)).mono ?_
    rintro e w1 ⟨x, hx0, hx1, rfl, hs, hk⟩
    have HS1 := Lib.hid hs
    have HK1 := Lib.hid hk
    clear hs hk
    go_wp2_with fail
    go_ret
    exact ⟨x % n, Int.emod_nonneg _ (by omega), Int.emod_lt_of_pos _ (by omega), rfl, HS1.out.mono (by omega), HK1.out⟩
  · go_enter Try.func81, Try.ntmps81
    go_wp2_with fail
    refine (next_any W0 v xs HR.out HW.out sb c w HB.out HS.out (by omega)).mono ?_
    rintro e w1 ⟨x, hx0, hx1, rfl, hs, hk⟩
    have HS1 := Lib.hid hs
    have HK1 := Lib.hid hk
    have HB1 := Lib.hid (HB.out.trans (hk.toBelow HB.out.size (by intro k h1 h2; omega)))
    clear hs hk
    go_wp2_with fail
    refine (next_any W0 v xs HR.out HW.out sb (c + 1) w1 HB1.out HS1.out (by omega)).mono ?_
    rintro e w2 ⟨y, hy0, hy1, rfl, hs, hk⟩
    have HS2 := Lib.hid hs
    have HK2 := Lib.hid hk
    clear hs hk
    go_wp2_with fail
    go_ret
    exact ⟨(x * 256 + y) % n, Int.emod_nonneg _ (by omega), Int.emod_lt_of_pos _ (by omega), rfl, HS2.out.mono (by omega), HK1.out.trans HK2.out⟩

set_option maxHeartbeats 400000 in
theorem l00From_any (v : Value) (xs : List Int) (w : World) (hR : RdB w v xs) :
    Calls Try.prog 80 #[v] w fun e w' => e = .returned (.pointer (some ⟨w.heap.size, 0, none⟩)) ∧ SrcAt w' w.heap.size v 0 ∧ Below w.heap.size w w' := by
  obtain ⟨ad, cap, rfl⟩ := hR.shape
  clear hR
  go_enter Try.func80, Try.ntmps80
  go_wp2_with fail
  go_ret
  exact ⟨rfl, ⟨0, 0, Nat.le_refl _, by decide, Blk.new _ _ _⟩, by (repeat' first | exact Below.refl _ _ | assumption | refine Below.alloc ?_ ?_ _ | refine Below.setCell ?_ ?_ _ | refine Below.drew ?_ | (simp; done) | (simp; omega))⟩

set_option maxHeartbeats 400000 in
theorem b10Has_any (v : Value) (l : List Int) (x : Int) (w : World) (h : RdI w v l) :
    Calls Try.prog 31 #[v, .int .i64 x] w fun e w' => e = .returned (.bool (hasB l x)) ∧ w = w' := by
  obtain ⟨a, c, rfl⟩ := h.shape
  have hl := h.len
  unfold maxLen at hl
  have HS := Lib.hid h
  clear h
  go_enter Try.func31, Try.ntmps31
  go_wp2_with fail
  go_loop [8] (fun i => ∃ k : Nat, i = .int .i64 k ∧ k ≤ l.length ∧ Hid (∀ j, j < k → l.getD j 0 ≠ x)) (fun i => l.length - (intOf i).toNat)
  case atStart => exact ⟨0, rfl, Nat.zero_le _, fun j hj => by omega⟩
  case round =>
    obtain ⟨k, rfl, hk, hno⟩ := hrel
    by_cases hlt : k < l.length
    · obtain ⟨b, off, rfl, _, hc⟩ := HS.out.at hlt
      obtain ⟨y, hy⟩ : ∃ y, y = l.getD k 0 := ⟨_, rfl⟩
      rw [← hy] at hc
      by_cases he : y = x
      · have he' : (y == x) = true := by simp [he]
        have HY := Lib.hid (show hasB l x = true from hasB_yes hlt (hy.symm.trans he))
        clear he hy
        go_wp2_with fail
        go_ret
        exact ⟨by rw [HY.out]; rfl, rfl⟩
      · have he' : (y == x) = false := by simp [he]
        have HE := Lib.hid (show l.getD k 0 ≠ x by rw [← hy]; exact he)
        clear he hy
        go_wp2_with fail
        go_round
        case rel => exact ⟨k + 1, by go_num, by omega, fun j hj => by
          rcases Nat.lt_succ_iff_lt_or_eq.1 hj with h | rfl
          · exact hno.out j h
          · exact HE.out⟩
        case measure => simp [intOf]; omega
    · obtain rfl : k = l.length := by omega
      go_wp2_with fail
      go_ret
      exact ⟨by rw [hasB_no hno.out]; rfl, rfl⟩

end Go.Proofs.Ytnhamdkpeefioaa
