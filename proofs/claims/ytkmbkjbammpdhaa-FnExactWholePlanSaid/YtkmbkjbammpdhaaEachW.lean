/-
  Whole plans: the program that tells each to a function.
-/
import Derived.Test.YtkmbkjbammpdhaaWholeN
namespace Go.Proofs.Ytkmbkjbammpdhaa
open Go.RowKit

theorem isWhole_b (q : Bool) (v : Value) (r : RowsD) (u : Value) (xs : List Int) (w : World) (h : RdR w v r) (hu : RdI w u xs) (hb : xs.length ≤ 1048576) (hq : wholeB r xs = q) :
    Calls Try.prog 107 #[v, u] w fun e w' => e = .returned (.bool q) ∧ Below w.heap.size w w' := by
  have := isWhole_any v r u xs w h hu hb
  rwa [hq] at this

set_option maxHeartbeats 1000000 in
set_option maxRecDepth 4000 in
theorem eachWhole_any (r : RowsD) (v : Value) (top V : Nat) (hV : r.vars = (V : Int)) (hV4 : V ≤ 4) (ht : top ≤ 5) (g : FuncId) (hent : ∀ (args : Array Value) (w : World), (callFunc g args).run Try.prog w = .ok (.enter g args) w) (caps : Array Value) (B0 : Nat) (S : Nat → Prop) (hS : ∀ b, S b → b < B0) (I : List (List Int) → World → Prop) (w0 : World)
    (hR : ∀ X, Kept S w0 X → RdR X v r)
    (hI : ∀ done w w', I done w → Below w.heap.size w w' → I done w')
    (hT : ∀ done (s : List Int) (a : Option Addr) (cap m : Nat) (w : World), s.length = m → m = V → w.ownsRow B0 2 1 (.slice a m cap) m (s.map I64) → done.length ≤ 16777216 → Kept S w0 w → I done w →
      Calls Try.prog g (#[.slice a m cap] ++ caps) w fun e w' => e = .returned (.tuple #[]) ∧ I (done ++ [s]) w' ∧ Kept S w w')
    (f : Nat) : ∀ (a : Option Addr) (cap : Nat) (now : List Int) (w : World) (done : List (List Int)) (m : Nat), now.length = m →
    now.length + f = V → B0 ≤ w.heap.size → w.ownsRow B0 2 1 (.slice a m cap) m (now.map I64) → Kept S w0 w → I done w → done.length + (wSols r top f now).length ≤ 16777216 →
    Calls Try.prog 97 #[v, .int .i64 top, .slice a m cap, .func (.func g) #[] caps] w fun e w' =>
      e = .returned (.tuple #[]) ∧ I (done ++ wSols r top f now) w' ∧ Kept S w w' := by
  induction f with
  | zero =>
    intro a cap now w done m hm hlen hB hs hk0 hi hcount
    subst hm
    obtain rfl : now.length = V := hlen
    obtain ⟨a1, c1, a2, c2, a3, c3, hvs⟩ := (hR w hk0).shape
    have HR := Lib.hid (hR w hk0)
    have HS := Lib.hid hs
    have HI := Lib.hid hI
    have HII := Lib.hid hi
    have HK0 := Lib.hid hk0
    have HT := Lib.hid hT
    have hqb : ((now.length : Int) == r.vars) = true := by rw [hV]; simp
    have hcnt : done.length ≤ 16777216 := by omega
    obtain ⟨q, hq⟩ : ∃ q, wholeB r now = q := ⟨_, rfl⟩
    have HQ := Lib.hid hq
    have HW := Lib.hid (show wSols r top 0 now = if q = true then [now] else [] by rw [← hq]; rfl)
    subst hvs
    clear hs hT hI hi hR hk0 hq hV
    go_enter Try.func97, Try.ntmps97
    go_wp2_with fail
    refine wp_at fun W hW => ?_
    have HB := Lib.hid (show Below w.heap.size w W by subst hW; (repeat' first | exact Below.refl _ _ | assumption | refine Below.alloc ?_ ?_ _ | refine Below.setCell ?_ ?_ _ | refine Below.drew ?_ | (simp; done) | (simp; omega)))
    have HK := Lib.hid (show Blk W w.heap.size 26 #[.int .i64 r.vars, .slice a1 r.nums.length c1, .slice a2 r.bnds.length c2, .slice a3 r.gains.length c3] by subst hW; exact Blk.new _ _ _)
    have d0 : W.cell? ⟨w.heap.size, 0, none⟩ = some (.int .i64 r.vars) := HK.out.cell 0 rfl
    clear hW
    go_quiet ((go_at_call 105; exact quiet_same (size_any _ _ (by unfold maxLen; omega))))
    have d0 : W.cell? ⟨w.heap.size, 0, none⟩ = some (.int .i64 r.vars) := HK.out.cell 0 rfl
    have d1 : W.cell? ⟨w.heap.size, 1, none⟩ = some (.slice a1 r.nums.length c1) := HK.out.cell 1 rfl
    have d2 : W.cell? ⟨w.heap.size, 2, none⟩ = some (.slice a2 r.bnds.length c2) := HK.out.cell 2 rfl
    have d3 : W.cell? ⟨w.heap.size, 3, none⟩ = some (.slice a3 r.gains.length c3) := HK.out.cell 3 rfl
    have HBn := Lib.hid (below_drewN HB.out nq)
    go_wp2_with fail
    have hR1 : RdI w (.slice a now.length cap) now := slc_of_owns HS.out
    refine (isWhole_b q _ r _ now _ (HR.out.up HBn.out (Nat.le_refl _)) (hR1.up HBn.out (Nat.le_refl _)) (by omega) HQ.out).mono ?_
    rintro e w1 ⟨rfl, hb1⟩
    have HB1 := Lib.hid (HBn.out.trans (hb1.mono HBn.out.size))
    clear hb1 hR1
    cases q
    · go_wp2_with fail
      refine bodyPost_ret (results_none rfl _ _ _) rfl ?_
      exact ⟨rfl, by rw [HW.out]; simpa using HI.out _ _ _ HII.out HB1.out, Kept.of_below HB1.out (Nat.le_refl _)⟩
    · have HTT := Lib.hid (HT.out done now a cap now.length w1 rfl rfl (owns_below HS.out HB1.out (Nat.le_refl _)) hcnt (HK0.out.below HB1.out HK0.out.size) (HI.out _ _ _ HII.out HB1.out))
      go_wp2_with fail
      refine HTT.out.mono ?_
      rintro e w2 ⟨rfl, hi1, hk1⟩
      have HI1 := Lib.hid hi1
      have HK1 := Lib.hid hk1
      clear hi1 hk1 HTT
      go_wp2_with fail
      refine bodyPost_ret (results_none rfl _ _ _) rfl ?_
      exact ⟨rfl, by rw [HW.out]; exact HI1.out, (Kept.of_below HB1.out (Nat.le_refl _)).trans HK1.out⟩
  | succ f ih =>
    intro a cap now w done m hm hlen hB hs hk0 hi hcount
    subst hm
    obtain ⟨a1, c1, a2, c2, a3, c3, hvs⟩ := (hR w hk0).shape
    have hnl : ((now.length : Int) == r.vars) = false := by rw [hV]; simp; omega
    have hnl4 : now.length ≤ 4 := by omega
    have HS := Lib.hid hs
    have HII := Lib.hid hi
    have HC := Lib.hid hcount
    have HK0 := Lib.hid hk0
    have HI := Lib.hid hI
    have HIH := Lib.hid ih
    have HL := Lib.hid hlen
    have HSS := Lib.hid hS
    subst hvs
    clear hs hT hI ih hlen hi hcount hS hR hk0 hV
    go_enter Try.func97, Try.ntmps97
    go_wp2_with fail
    refine wp_at fun W hW => ?_
    have HB := Lib.hid (show Below w.heap.size w W by subst hW; (repeat' first | exact Below.refl _ _ | assumption | refine Below.alloc ?_ ?_ _ | refine Below.setCell ?_ ?_ _ | refine Below.drew ?_ | (simp; done) | (simp; omega)))
    have HK := Lib.hid (show Blk W w.heap.size 26 #[.int .i64 r.vars, .slice a1 r.nums.length c1, .slice a2 r.bnds.length c2, .slice a3 r.gains.length c3] by subst hW; exact Blk.new _ _ _)
    have d0 : W.cell? ⟨w.heap.size, 0, none⟩ = some (.int .i64 r.vars) := HK.out.cell 0 rfl
    clear hW
    go_quiet ((go_at_call 105; exact quiet_same (size_any _ _ (by unfold maxLen; omega))))
    have HBn := Lib.hid (below_drewN HB.out nq)
    have HKn := Lib.hid (show Blk (W.drewN nq) w.heap.size 26 #[.int .i64 r.vars, .slice a1 r.nums.length c1, .slice a2 r.bnds.length c2, .slice a3 r.gains.length c3] from HK.out)
    go_wp2_with fail
    go_loopw [8] (fun c wr => ∃ k : Nat, c = .int .i64 k ∧ k ≤ top + 1 ∧ Hid (I (done ++ wPart r top f now k) wr) ∧ Hid (Kept S (W.drewN nq) wr)) (fun c _ => top + 1 - (intOf c).toNat)
    case atStart => exact ⟨0, rfl, Nat.zero_le _, Lib.hid (by simpa [wPart] using HI.out _ _ _ HII.out HBn.out), Kept.refl _ _⟩
    case round =>
      obtain ⟨k, rfl, hk, HI1, HK1⟩ := hrel
      have hWl := HKn.out.lt
      have HKw := Lib.hid ((Kept.of_below HBn.out (Nat.le_refl _) : Kept S w (W.drewN nq)).trans HK1.out)
      have HS1 := Lib.hid (owns_kept HS.out HKw.out (fun b hb => by have := (owns_lt HS.out hb).1; intro hs; have := HSS.out b hs; omega))
      have HKr := Lib.hid (HKn.out.kept HK1.out (by intro hs; have := HSS.out _ hs; omega))
      have hszw := HKw.out.size
      by_cases hlt : k ≤ top
      · have d0 : wr.cell? ⟨w.heap.size, 0, none⟩ = some (.int .i64 r.vars) := HKr.out.cell 0 rfl
        have d1 : wr.cell? ⟨w.heap.size, 1, none⟩ = some (.slice a1 r.nums.length c1) := HKr.out.cell 1 rfl
        have d2 : wr.cell? ⟨w.heap.size, 2, none⟩ = some (.slice a2 r.bnds.length c2) := HKr.out.cell 2 rfl
        have d3 : wr.cell? ⟨w.heap.size, 3, none⟩ = some (.slice a3 r.gains.length c3) := HKr.out.cell 3 rfl
        have hcnt : (done ++ wPart r top f now k).length + (wSols r top f (now ++ [(k : Int)])).length ≤ 16777216 := by
          have h1 := HC.out
          rw [wSols_succ] at h1
          have h2 : (wPart r top f now (k + 1)).length ≤ (wPart r top f now (top + 1)).length := by
            have : ∀ d, (wPart r top f now (k + 1)).length ≤ (wPart r top f now (k + 1 + d)).length := by
              intro d
              induction d with
              | zero => exact Nat.le_refl _
              | succ d ih =>
                have e := wPart_succ r top f now (k + 1 + d)
                show _ ≤ (wPart r top f now (k + 1 + d + 1)).length
                rw [e, List.length_append]; omega
            have := this (top - k)
            rwa [show k + 1 + (top - k) = top + 1 by omega] at this
          rw [wPart_succ, List.length_append] at h2
          rw [List.length_append]; omega
        have HCN := Lib.hid hcnt
        clear hcnt
        have HSLC := Lib.hid (slc_of_owns HS1.out)
        have HKEEP := Lib.hid (show ∀ X, Kept S wr X → X.cell? ⟨w.heap.size, 0, none⟩ = some (.int .i64 r.vars) ∧ X.cell? ⟨w.heap.size, 1, none⟩ = some (.slice a1 r.nums.length c1) ∧ X.cell? ⟨w.heap.size, 2, none⟩ = some (.slice a2 r.bnds.length c2) ∧ X.cell? ⟨w.heap.size, 3, none⟩ = some (.slice a3 r.gains.length c3) ∧ Kept S wr X from fun X hk =>
          have q := HKr.out.kept hk (by intro hs; have := HSS.out _ hs; omega)
          ⟨q.cell 0 rfl, q.cell 1 rfl, q.cell 2 rfl, q.cell 3 rfl, hk⟩)
        go_wp2_with fail
        go_region_held3 (fun X => X.cell? ⟨w.heap.size, 0, none⟩ = some (.int .i64 r.vars) ∧ X.cell? ⟨w.heap.size, 1, none⟩ = some (.slice a1 r.nums.length c1) ∧ X.cell? ⟨w.heap.size, 2, none⟩ = some (.slice a2 r.bnds.length c2) ∧ X.cell? ⟨w.heap.size, 3, none⟩ = some (.slice a3 r.gains.length c3) ∧ Kept S wr X)
          (first | (refine HKEEP.out _ ?_; repeat' first | assumption | exact Kept.refl _ _ | refine Kept.alloc ?_ _ | refine Kept.drew ?_))
          (first
            | (go_at_call 108; have hh := (‹_ ∧ _ ∧ _ ∧ _ ∧ Kept S wr _›).2.2.2.2; refine (copyInts_any a cap now _ (slc_of_owns (owns_kept HS1.out hh (fun b hb hs => by have := (owns_lt HS1.out hb).1; have := HSS.out b hs; omega))) (by omega)).mono ?_; rintro e w1 ⟨g1, cap1, rfl, hown, hbl⟩; have hkc := hh.below hbl hh.size; have hbc : Below wr.heap.size wr w1 := Below.trans (by repeat' first | assumption | exact Below.refl _ _ | refine Below.alloc ?_ (by simp) _ | refine Below.drew ?_) (hbl.mono (by simp)))
            | (refine step_app_own rfl (.tmp 29) (.tmp 31) (by rfl) wr.heap.size ⟨g1, 0, none⟩ now.length cap1 now (by rfl) (by first | exact owns_base hown (by simp) | exact owns_base hown (by have := hh.size; simp at this; omega) | exact owns_base (hown.alloc _) (by simp) | exact owns_base (hown.alloc _) (by have := hh.size; simp at this; omega)) _ [(k : Int)] (by rfl) (by first | exact slc_one _ _ | exact slc_oneB _ _ _ (by simp) | exact slc_drew (slc_oneB _ _ _ (by simp)) | exact (slc_oneB _ _ _ (by simp)).below hbl (Nat.le_refl _) | exact (slc_drew (slc_oneB _ _ _ (by simp))).below hbl (Nat.le_refl _)) (now.length + 1) (now ++ [(k : Int)]) (by simp) (by simp) (by omega) (by have := hkc.size; simp at this ⊢; omega) ?_; intro g2 cap2 w2 hown2 hbl2 hg2; have hba : Below wr.heap.size wr w2 := Below.trans (by first | assumption | exact hbc.alloc hbc.size _) hbl2; have hka : Kept S wr w2 := Kept.of_below hba (Nat.le_refl _))
            | (go_at_call 97; refine (HIH.out (some ⟨g2, 0, none⟩) cap2 (now ++ [(k : Int)]) w2 (done ++ wPart r top f now k) (now.length + 1) (by simp) (by have := HL.out; simp; omega) (by have := hka.size; omega) (owns_base hown2 (by omega)) ((HK0.out.trans HKw.out).trans hka) (HI.out _ _ _ HI1.out hba) HCN.out).mono ?_; rintro e w3 ⟨rfl, hi2, hkp2⟩; have hkz := hka.trans hkp2)
            | fail)
        all_goals
          have HI2 := Lib.hid hi2
          have HKZ := Lib.hid (HK1.out.trans hkz)
          clear hi2 hkz hkp2 hka hba hbc hkc hown2 hbl2 hg2 hown hbl hh
          go_wp2_with fail
          go_roundw
          case rel => exact ⟨k + 1, by go_num, by omega, by rw [wPart_succ, ← List.append_assoc]; exact HI2.out, HKZ.out⟩
          case measure => simp [intOf]; omega
      · obtain rfl : k = top + 1 := by omega
        go_wp2_with fail
        go_end0
        exact ⟨rfl, by rw [wSols_succ]; exact HI1.out, HKw.out⟩

end Go.Proofs.Ytkmbkjbammpdhaa
