/-
  Whole plans: which integers keep all rows; by the program and by the reference.
-/
import Derived.Test.YtkmbkjbammpdhaaWholeM
import Derived.Test.YtkmbkjbammpdhaaLeftS
import Derived.Test.YtkmbkjbammpdhaaReg
namespace Go.Proofs.Ytkmbkjbammpdhaa
open Go.RowKit

theorem map_snoc (xs : List Int) (k : Nat) (h : k < xs.length) : (xs.take (k + 1)).map fI = (xs.take k).map fI ++ [fI (xs.getD k 0)] := by
  rw [List.take_succ_eq_append_getElem h, List.map_append]
  simp [h]

theorem run_conv_if {P : Program} (n : Int) (hd : P.underlying 37 = some (.float .f32)) (hs : P.underlying 2 = some (.int .i64)) (w : World) : (convert 2 37 (.int .i64 n)).run P w = .ok (.float .f32 (fI n)) w := by
  simp [convert, run_underlying hs, run_underlying hd, Conv.intToFloat, floatOfInt, fI]

set_option maxHeartbeats 2000000 in
theorem asNumbers_any (v : Value) (xs : List Int) (w : World) (h : RdI w v xs) (hb : xs.length ≤ 1048576) :
    Calls Try.prog 102 #[v] w fun e w' => ∃ u, e = .returned u ∧ RdF w' u (xs.map fI) ∧ Below w.heap.size w w' := by
  obtain ⟨a, c, rfl⟩ := h.shape
  have HS := Lib.hid h
  clear h
  go_enter Try.func102, Try.ntmps102
  go_wp2_with fail
  go_loopw [3, 8] (fun out i wr => ∃ (k : Nat) (b : Option Addr) (cap : Nat), i = .int .i64 k ∧ k ≤ xs.length ∧ out = .slice b k cap ∧ Hid (wr.ownsRow w.heap.size 37 1 (.slice b k cap) k (((xs.take k).map fI).map F32)) ∧ Hid (Below w.heap.size w wr)) (fun _ i _ => xs.length - (intOf i).toNat)
  case atStart => exact ⟨0, none, 0, rfl, Nat.zero_le _, rfl, World.ownsRow_nil _ _ _ _, Below.refl _ _⟩
  case round =>
    obtain ⟨k, b, cap, rfl, hk, rfl, HO, HB⟩ := hrel
    by_cases hlt : k < xs.length
    · obtain ⟨ub, uo, rfl, _, hc⟩ := (HS.out.up HB.out (Nat.le_refl _)).at hlt
      have HM := Lib.hid (map_snoc xs k hlt)
      obtain ⟨y, hy⟩ : ∃ y, y = xs.getD k 0 := ⟨_, rfl⟩
      rw [← hy] at hc HM
      have hconv := fun (W : World) => run_conv_if (P := Try.prog) y Try.underlying37 Try.underlying2 W
      have hz := HB.out.size
      clear hy
      go_wp2_with (at_builtin; refine app_flts rfl _ _ rfl w.heap.size (.slice b k cap) k _ rfl (owns_below HO.out ((Below.refl _ _).alloc (Nat.le_refl _) _) (Nat.le_refl _)) _ [_] rfl (slcF_one _ _) (k + 1) _ (by simp) rfl (by omega) (by simp; omega) ?_; intro a2 cap2 w5 hown hbl hg _)
      go_roundw
      case rel => exact ⟨k + 1, a2, cap2, by go_num, by omega, rfl, by rw [HM.out]; exact hown, (HB.out.alloc HB.out.size _).trans hbl⟩
      case measure => simp [intOf]; omega
    · obtain rfl : k = xs.length := by omega
      go_wp2_with fail
      go_ret
      refine ⟨_, rfl, ?_, HB.out⟩
      have := slc_of_owns HO.out
      rwa [List.take_length] at this

set_option maxHeartbeats 2000000 in
theorem l07Floats_any (v : Value) (xs : List Int) (w : World) (h : RdI w v xs) (hb : xs.length ≤ 1048576) :
    Calls Try.prog 104 #[v] w fun e w' => ∃ u, e = .returned u ∧ RdF w' u (xs.map fI) ∧ Below w.heap.size w w' := by
  obtain ⟨a, c, rfl⟩ := h.shape
  have HS := Lib.hid h
  clear h
  go_enter Try.func104, Try.ntmps104
  go_wp2_with fail
  refine wp_at fun W0 hW0 => ?_
  have HB0 := Lib.hid (show Below w.heap.size w W0 by subst hW0; exact (Below.refl _ _).alloc (Nat.le_refl _) _)
  have HO0 := Lib.hid (show W0.ownsRow w.heap.size 37 1 (.slice (some ⟨w.heap.size, 0, none⟩) 0 0) 0 (([] : List Nat).map F32) by subst hW0; exact ownsF_empty w)
  clear hW0
  go_loopw [3, 8] (fun out i wr => ∃ (k : Nat) (b : Option Addr) (cap : Nat), i = .int .i64 k ∧ k ≤ xs.length ∧ out = .slice b k cap ∧ Hid (wr.ownsRow w.heap.size 37 1 (.slice b k cap) k (((xs.take k).map fI).map F32)) ∧ Hid (Below w.heap.size w wr)) (fun _ i _ => xs.length - (intOf i).toNat)
  case atStart => exact ⟨0, _, 0, rfl, Nat.zero_le _, rfl, HO0.out, HB0.out⟩
  case round =>
    obtain ⟨k, b, cap, rfl, hk, rfl, HO, HB⟩ := hrel
    by_cases hlt : k < xs.length
    · obtain ⟨ub, uo, rfl, _, hc⟩ := (HS.out.up HB.out (Nat.le_refl _)).at hlt
      have HM := Lib.hid (map_snoc xs k hlt)
      obtain ⟨y, hy⟩ : ∃ y, y = xs.getD k 0 := ⟨_, rfl⟩
      rw [← hy] at hc HM
      have hconv := fun (W : World) => run_conv_if (P := Try.prog) y Try.underlying37 Try.underlying2 W
      have hz := HB.out.size
      clear hy
      go_wp2_with (at_builtin; refine app_flts rfl _ _ rfl w.heap.size (.slice b k cap) k _ rfl (owns_below HO.out ((Below.refl _ _).alloc (Nat.le_refl _) _) (Nat.le_refl _)) _ [_] rfl (slcF_one _ _) (k + 1) _ (by simp) rfl (by omega) (by simp; omega) ?_; intro a2 cap2 w5 hown hbl hg _)
      go_roundw
      case rel => exact ⟨k + 1, a2, cap2, by go_num, by omega, rfl, by rw [HM.out]; exact hown, (HB.out.alloc HB.out.size _).trans hbl⟩
      case measure => simp [intOf]; omega
    · obtain rfl : k = xs.length := by omega
      go_wp2_with fail
      go_ret
      refine ⟨_, rfl, ?_, HB.out⟩
      have := slc_of_owns HO.out
      rwa [List.take_length] at this

theorem all_get {xs : List Nat} {p : Nat → Bool} : xs.all p = true ↔ ∀ i, i < xs.length → p (xs.getD i 0) = true := by
  rw [List.all_eq_true]
  constructor
  · intro h i hi
    have : xs.getD i 0 = xs[i] := by simp [hi]
    rw [this]; exact h _ (List.getElem_mem hi)
  · intro h y hy
    obtain ⟨i, hi, rfl⟩ := List.mem_iff_getElem.1 hy
    have : xs.getD i 0 = xs[i] := by simp [hi]
    rw [← this]; exact h i hi
theorem all_no {xs : List Nat} {p : Nat → Bool} {i : Nat} (hi : i < xs.length) (h : p (xs.getD i 0) = false) : xs.all p = false := by
  cases hb : xs.all p
  · rfl
  · have := all_get.1 hb i hi
    rw [h] at this; cases this

theorem run_neg0 {P : Program} (w : World) : (Op.unary UnOp.neg (.float .f32 0)).run P w = .ok (.float .f32 2147483648) w := by
  first | rfl | (simp [Op.unary]; done) | (simp [Op.unary]; rfl)

set_option maxHeartbeats 2000000 in
theorem areAtLeast_any (v : Value) (xs : List Nat) (w : World) (h : RdF w v xs) :
    Calls Try.prog 166 #[v, .float .f32 0] w fun e w' => e = .returned (.bool (xs.all geB)) ∧ w = w' := by
  obtain ⟨a, c, rfl⟩ := h.shape
  have hm := h.len
  simp only [maxLen] at hm
  have HS := Lib.hid h
  clear h
  go_enter Try.func166, Try.ntmps166
  go_wp2_with fail
  go_loop [9] (fun i => ∃ k : Nat, i = .int .i64 k ∧ k ≤ xs.length ∧ Hid (∀ j, j < k → geB (xs.getD j 0) = true)) (fun i => xs.length - (intOf i).toNat)
  case atStart => exact ⟨0, rfl, Nat.zero_le _, fun j hj => by omega⟩
  case round =>
    obtain ⟨k, rfl, hk, hall⟩ := hrel
    by_cases hlt : k < xs.length
    · obtain ⟨b, off, rfl, hb, hc⟩ := HS.out.at hlt
      obtain ⟨y, hy⟩ : ∃ y, y = xs.getD k 0 := ⟨_, rfl⟩
      rw [← hy] at hc
      have HY := Lib.hid hy
      clear hy
      have hneg := fun (W : World) => run_neg0 (P := Try.prog) W
      cases hq : (FloatKind.f32.format.order y 0 == some .lt)
      · have hq' : (FloatKind.f32.format.order y 2147483648 == some .lt) = false := by rw [order_negz]; exact hq
        have HQ := Lib.hid hq
        clear hq
        go_wp2_with fail
        go_round
        case rel =>
          refine ⟨k + 1, by go_num, by omega, fun j hj => ?_⟩
          by_cases hjk : j < k
          · exact hall.out j hjk
          · obtain rfl : j = k := by omega
            rw [← HY.out]; unfold geB; rw [HQ.out]; rfl
        case measure => simp [intOf]; omega
      · have hq' : (FloatKind.f32.format.order y 2147483648 == some .lt) = true := by rw [order_negz]; exact hq
        have HQ := Lib.hid hq
        clear hq
        go_wp2_with fail
        go_ret
        exact ⟨by rw [all_no hlt (by rw [← HY.out]; unfold geB; rw [HQ.out]; rfl)]; rfl, rfl⟩
    · obtain rfl : k = xs.length := by omega
      go_wp2_with fail
      go_ret
      exact ⟨by rw [all_get.2 hall.out]; rfl, rfl⟩

theorem implLeft_b (q : Bool) (L : List Nat) (v : Value) (r : RowsD) (u : Value) (x : List Nat) (w : World) (h : RdR w v r) (hu : RdF w u x) (hq : leftOk r x = q) (hL : leftR r x = L) :
    Calls Try.prog 165 #[v, u] w (ListPost q L w.heap.size w) := by
  have := implLeft_any v r u x w h hu
  rwa [hq, hL] at this
theorem specLeft_b (q : Bool) (L : List Nat) (v : Value) (r : RowsD) (u : Value) (x : List Nat) (w : World) (h : RdR w v r) (hu : RdF w u x) (hq : leftOk r x = q) (hL : leftR r x = L) :
    Calls Try.prog 158 #[v, u] w (ListPost q L w.heap.size w) := by
  have := specLeft_any v r u x w h hu
  rwa [hq, hL] at this

set_option maxHeartbeats 4000000 in
set_option maxRecDepth 4000 in
theorem isWhole_any (v : Value) (r : RowsD) (u : Value) (xs : List Int) (w : World) (h : RdR w v r) (hu : RdI w u xs) (hb : xs.length ≤ 1048576) :
    Calls Try.prog 107 #[v, u] w fun e w' => e = .returned (.bool (wholeB r xs)) ∧ Below w.heap.size w w' := by
  obtain ⟨a1, c1, a2, c2, a3, c3, rfl⟩ := h.shape
  obtain ⟨a, c, rfl⟩ := hu.shape
  have HP := Lib.hid h
  have HU := Lib.hid hu
  obtain ⟨q, hq⟩ : ∃ q, leftOk r (xs.map fI) = q := ⟨_, rfl⟩
  obtain ⟨L, hL⟩ : ∃ L, leftR r (xs.map fI) = L := ⟨_, rfl⟩
  have HQ := Lib.hid hq
  have HL := Lib.hid hL
  have HW := Lib.hid (show wholeB r xs = (q && L.all geB) by unfold wholeB; rw [hq, hL])
  clear h hu hq hL
  go_enter Try.func107, Try.ntmps107
  go_wp2_with fail
  refine wp_at fun W hW => ?_
  have HB := Lib.hid (show Below w.heap.size w W by subst hW; (repeat' first | exact Below.refl _ _ | assumption | refine Below.alloc ?_ ?_ _ | refine Below.setCell ?_ ?_ _ | refine Below.drew ?_ | (simp; done) | (simp; omega)))
  have HK := Lib.hid (show Blk W w.heap.size 26 #[.int .i64 r.vars, .slice a1 r.nums.length c1, .slice a2 r.bnds.length c2, .slice a3 r.gains.length c3] by subst hW; exact Blk.new _ _ _)
  have d0 : W.cell? ⟨w.heap.size, 0, none⟩ = some (.int .i64 r.vars) := HK.out.cell 0 rfl
  have d1 : W.cell? ⟨w.heap.size, 1, none⟩ = some (.slice a1 r.nums.length c1) := HK.out.cell 1 rfl
  have d2 : W.cell? ⟨w.heap.size, 2, none⟩ = some (.slice a2 r.bnds.length c2) := HK.out.cell 2 rfl
  have d3 : W.cell? ⟨w.heap.size, 3, none⟩ = some (.slice a3 r.gains.length c3) := HK.out.cell 3 rfl
  clear hW
  go_region_held3 (fun X => X.cell? ⟨w.heap.size, 0, none⟩ = some (.int .i64 r.vars) ∧ X.cell? ⟨w.heap.size, 1, none⟩ = some (.slice a1 r.nums.length c1) ∧ X.cell? ⟨w.heap.size, 2, none⟩ = some (.slice a2 r.bnds.length c2) ∧ X.cell? ⟨w.heap.size, 3, none⟩ = some (.slice a3 r.gains.length c3) ∧ Below W.heap.size W X)
    (first | exact ⟨held_of hbn d0 (Nat.le_refl _), held_of hbn d1 (Nat.le_refl _), held_of hbn d2 (Nat.le_refl _), held_of hbn d3 (Nat.le_refl _), hbn⟩ | exact ⟨d0, d1, d2, d3, (Below.refl _ _).drew⟩)
    (first
      | (go_at_call 102; have hh := (‹_ ∧ _ ∧ _ ∧ _ ∧ Below W.heap.size W _›).2.2.2.2; refine (asNumbers_any _ xs _ (HU.out.up (HB.out.trans (hh.mono HB.out.size)) (Nat.le_refl _)) hb).mono ?_; rintro e w1 ⟨nu, rfl, hnu, hb1⟩; have hbn := hh.trans (hb1.mono hh.size))
      | (go_at_call 165; have hh := (‹_ ∧ _ ∧ _ ∧ _ ∧ Below W.heap.size W _›).2.2.2.2; refine (implLeft_b q L _ r _ (xs.map fI) _ (HP.out.up (HB.out.trans (hh.mono HB.out.size)) (Nat.le_refl _)) hnu HQ.out HL.out).mono ?_; rintro e w2 ⟨lv, rfl, hlv, hb2⟩; have hbn := hh.trans (hb2.mono hh.size))
      | fail)
  have HB2 := Lib.hid (HB.out.trans (hbn.mono HB.out.size))
  obtain ⟨la, lc, rfl⟩ := hlv.shape
  have HLV := Lib.hid hlv
  clear hlv hbn hb2 hb1 hnu hh d0 d1 d2 d3
  cases q
  · go_wp2_with fail
    go_ret
    exact ⟨by rw [HW.out]; rfl, HB2.out⟩
  · go_wp2_with fail
    refine (areAtLeast_any _ L _ HLV.out).mono ?_
    rintro e w3 ⟨rfl, rfl⟩
    obtain ⟨p, hp⟩ : ∃ p, p = L.all geB := ⟨_, rfl⟩
    rw [← hp]
    have HPP := Lib.hid hp
    clear hp
    go_wp2_with fail
    go_ret
    exact ⟨by rw [HW.out, ← HPP.out]; rfl, HB2.out⟩

end Go.Proofs.Ytkmbkjbammpdhaa
