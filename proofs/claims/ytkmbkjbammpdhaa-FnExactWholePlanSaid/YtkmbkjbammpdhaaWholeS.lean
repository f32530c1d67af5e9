/-
  Whole plans, by the reference: which they are, and counting up.
-/
import Derived.Test.YtkmbkjbammpdhaaWhole
namespace Go.Proofs.Ytkmbkjbammpdhaa
open Go.RowKit

noncomputable def wokB (r : RowsD) (xs : List Int) (top : Int) : Bool := ((xs.length : Int) == r.vars) && (allB xs.length (fun i => inB 0 top (xs.getD i 0)) && wholeB r xs)

set_option maxHeartbeats 4000000 in
set_option maxRecDepth 4000 in
theorem l07Whole_any (bb : Nat) (v0 v1 v2 v3 : Value) (r : RowsD) (u : Value) (xs : List Int) (top : Int) (w : World) (hk : Blk w bb 26 #[v0, v1, v2, v3]) (h : RdR w (.agg #[v0, v1, v2, v3]) r) (hu : RdI w u xs) (hv8 : r.vars ≤ 8) :
    Calls Try.prog 95 #[.pointer (some ⟨bb, 0, none⟩), u, .int .i64 top] w fun e w' => e = .returned (.bool (wokB r xs top)) ∧ Below w.heap.size w w' := by
  obtain ⟨a1, c1, a2, c2, a3, c3, e⟩ := h.shape
  simp only [Value.agg.injEq, Array.mk.injEq, List.cons.injEq, and_true] at e
  obtain ⟨rfl, rfl, rfl, rfl⟩ := e
  obtain ⟨a, c, rfl⟩ := hu.shape
  have l1 := hu.len
  unfold maxLen at l1
  have HP := Lib.hid h
  have HU := Lib.hid hu
  have HK := Lib.hid hk
  have d0 : w.cell? ⟨bb, 0, none⟩ = some (.int .i64 r.vars) := hk.cell 0 rfl
  have d1 : w.cell? ⟨bb, 1, none⟩ = some (.slice a1 r.nums.length c1) := hk.cell 1 rfl
  have d2 : w.cell? ⟨bb, 2, none⟩ = some (.slice a2 r.bnds.length c2) := hk.cell 2 rfl
  have d3 : w.cell? ⟨bb, 3, none⟩ = some (.slice a3 r.gains.length c3) := hk.cell 3 rfl
  obtain ⟨q, hq⟩ : ∃ q, leftOk r (xs.map fI) = q := ⟨_, rfl⟩
  obtain ⟨L, hL⟩ : ∃ L, leftR r (xs.map fI) = L := ⟨_, rfl⟩
  have HQ := Lib.hid hq
  have HL := Lib.hid hL
  have HW := Lib.hid (show wholeB r xs = (q && L.all geB) by unfold wholeB; rw [hq, hL])
  clear h hu hk hq hL
  by_cases hlen : (xs.length : Int) = r.vars
  case neg =>
    have hne : ((xs.length : Int) != r.vars) = true := by simpa using hlen
    have HNO := Lib.hid (show wokB r xs top = false by unfold wokB; rw [show ((xs.length : Int) == r.vars) = false by simpa using hlen]; rfl)
    clear hlen
    go_enter Try.func95, Try.ntmps95
    go_wp2_with fail
    go_ret
    exact ⟨by rw [HNO.out]; rfl, Below.refl _ _⟩
  have hne : ((xs.length : Int) != r.vars) = false := by simpa using hlen
  have HLE := Lib.hid (show ((xs.length : Int) == r.vars) = true by simpa using hlen)
  have hx8 : xs.length ≤ 8 := by omega
  clear hlen
  go_enter Try.func95, Try.ntmps95
  go_wp2_with fail
  go_loop [20] (fun i => ∃ k : Nat, i = .int .i64 k ∧ k ≤ xs.length ∧ Hid (∀ j, j < k → inB 0 top (xs.getD j 0) = true)) (fun i => xs.length - (intOf i).toNat)
  case atStart => exact ⟨0, rfl, Nat.zero_le _, fun j hj => by omega⟩
  case round =>
    obtain ⟨k, rfl, hk, hall⟩ := hrel
    by_cases hlt : k < xs.length
    · obtain ⟨b, off, rfl, hb, hc⟩ := HU.out.at hlt
      obtain ⟨y, hy⟩ : ∃ y, y = xs.getD k 0 := ⟨_, rfl⟩
      rw [← hy] at hc
      have HY := Lib.hid hy
      clear hy
      cases hin : inB 0 top y
      · have HI := Lib.hid hin
        have HNO := Lib.hid (show wokB r xs top = false by unfold wokB; rw [allB_false hlt (by rw [← HY.out]; exact hin), Bool.false_and, Bool.and_false])
        clear hin
        go_wp2_with (go_at_call 135; refine (in_any _ _ _ _).mono ?_; rintro e w' ⟨rfl, rfl⟩; rw [HI.out])
        go_ret
        exact ⟨by rw [HNO.out]; rfl, Below.refl _ _⟩
      · have HI := Lib.hid hin
        clear hin
        go_wp2_with (go_at_call 135; refine (in_any _ _ _ _).mono ?_; rintro e w' ⟨rfl, rfl⟩; rw [HI.out])
        go_round
        case rel =>
          refine ⟨k + 1, by go_num, by omega, fun j hj => ?_⟩
          by_cases hjk : j < k
          · exact hall.out j hjk
          · obtain rfl : j = k := by omega
            rw [← HY.out]; exact HI.out
        case measure => simp [intOf]; omega
    · obtain rfl : k = xs.length := by omega
      have HA := Lib.hid (show wokB r xs top = (q && L.all geB) by unfold wokB; rw [HLE.out, allB_true hall.out, HW.out]; simp)
      go_wp2_with fail
      go_region_held3 (fun X => X.cell? ⟨bb, 0, none⟩ = some (.int .i64 r.vars) ∧ X.cell? ⟨bb, 1, none⟩ = some (.slice a1 r.nums.length c1) ∧ X.cell? ⟨bb, 2, none⟩ = some (.slice a2 r.bnds.length c2) ∧ X.cell? ⟨bb, 3, none⟩ = some (.slice a3 r.gains.length c3) ∧ Below w.heap.size w X)
        (first | exact ⟨held_of hbn d0 (Nat.le_refl _), held_of hbn d1 (Nat.le_refl _), held_of hbn d2 (Nat.le_refl _), held_of hbn d3 (Nat.le_refl _), hbn⟩ | exact ⟨d0, d1, d2, d3, (Below.refl _ _).drew⟩)
        (first
          | (go_at_call 104; have hh := (‹_ ∧ _ ∧ _ ∧ _ ∧ Below w.heap.size w _›).2.2.2.2; refine (l07Floats_any _ xs _ (HU.out.up hh (Nat.le_refl _)) (by omega)).mono ?_; rintro e w1 ⟨nu, rfl, hnu, hb1⟩; have hbn := hh.trans (hb1.mono hh.size))
          | (go_at_call 158; have hh := (‹_ ∧ _ ∧ _ ∧ _ ∧ Below w.heap.size w _›).2.2.2.2; refine (specLeft_b q L _ r _ (xs.map fI) _ (HP.out.up hh (Nat.le_refl _)) hnu HQ.out HL.out).mono ?_; rintro e w2 ⟨lv, rfl, hlv, hb2⟩; have hbn := hh.trans (hb2.mono hh.size))
          | fail)
      have HB2 := Lib.hid hbn
      obtain ⟨la, lc, rfl⟩ := hlv.shape
      have hll := hlv.len
      unfold maxLen at hll
      have HLV := Lib.hid hlv
      clear hlv hbn hb2 hb1 hnu hh d0 d1 d2 d3
      cases q
      · go_wp2_with fail
        go_ret
        exact ⟨by rw [HA.out]; rfl, HB2.out⟩
      · go_wp2_with fail
        go_loop [44] (fun i => ∃ k : Nat, i = .int .i64 k ∧ k ≤ L.length ∧ Hid (∀ j, j < k → geB (L.getD j 0) = true)) (fun i => L.length - (intOf i).toNat)
        case atStart => exact ⟨0, rfl, Nat.zero_le _, fun j hj => by omega⟩
        case round =>
          obtain ⟨k, rfl, hk, hall⟩ := hrel
          by_cases hlt : k < L.length
          · obtain ⟨b, off, rfl, hb, hc⟩ := HLV.out.at hlt
            obtain ⟨y, hy⟩ : ∃ y, y = L.getD k 0 := ⟨_, rfl⟩
            rw [← hy] at hc
            have HY := Lib.hid hy
            clear hy
            cases hq : (FloatKind.f32.format.order y 0 == some .lt)
            · have HQ := Lib.hid hq
              go_wp2_with fail
              go_round
              case rel =>
                refine ⟨k + 1, by go_num, by omega, fun j hj => ?_⟩
                by_cases hjk : j < k
                · exact hall.out j hjk
                · obtain rfl : j = k := by omega
                  rw [← HY.out]; unfold geB; rw [HQ.out]; rfl
              case measure => simp [intOf]; omega
            · have HQ := Lib.hid hq
              go_wp2_with fail
              go_ret
              exact ⟨by rw [HA.out, all_no hlt (by rw [← HY.out]; unfold geB; rw [HQ.out]; rfl)]; rfl, HB2.out⟩
          · obtain rfl : k = L.length := by omega
            go_wp2_with fail
            go_ret
            exact ⟨by rw [HA.out, all_get.2 hall.out]; rfl, HB2.out⟩

end Go.Proofs.Ytkmbkjbammpdhaa
