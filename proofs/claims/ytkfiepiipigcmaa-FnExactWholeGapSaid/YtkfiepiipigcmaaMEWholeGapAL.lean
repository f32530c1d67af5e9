/-
  FnExactWholeGap: texts joined: TabV, OwnT.
-/
import Derived.Test.YtkfiepiipigcmaaMEWholeGapAA
import Derived.Test.YtkfiepiipigcmaaMEWholeGapAI
namespace Go.Proofs.Ytkfiepiipigcmaa
open Go.RowKit

theorem rdI_take {w : World} {b off n cap : Nat} {xs : List Int} (h : RdI w (.slice (some ⟨b, off, none⟩) n cap) xs) (k : Nat) (hk : k ≤ n) (hn : xs.length = n) : RdI w (.slice (some ⟨b, off, none⟩) k cap) (xs.take k) := by
  have hl : (xs.take k).length = k := by rw [List.length_take]; omega
  rcases h with ⟨e, _⟩ | ⟨ad, c', e, q1, q2, hc⟩
  · cases e
  · simp only [Value.slice.injEq, Option.some.injEq] at e
    obtain ⟨rfl, _, rfl⟩ := e
    rw [List.length_map] at q1
    refine .inr ⟨⟨b, off, none⟩, cap, by rw [List.length_map, hl], by rw [List.length_map, hl]; omega, q2, fun i u hi => hc i u ?_⟩
    have hlt : i < k := by have := (List.getElem?_eq_some_iff.1 hi).1; rw [List.length_map, hl] at this; exact this
    rw [List.getElem?_map] at hi ⊢
    rw [List.getElem?_take_of_lt hlt] at hi
    exact hi

theorem isIndex_any (i n : Int) (w : World) (h0 : 0 ≤ n) (h1 : n ≤ 1000000) :
    Calls Try.prog 185 #[.int .i64 i, .int .i64 n] w fun e w' => e = .returned (.bool (inB 0 (n - 1) i)) ∧ w = w' := by
  go_enter Try.func185, Try.ntmps185
  go_wp2_with (go_at_call 65; refine (within_any _ _ _ _).mono ?_; rintro e w' ⟨rfl, rfl⟩)
  go_ret
  exact ⟨rfl, rfl⟩

set_option maxHeartbeats 1000000 in
theorem isColumn_any (v : Value) (t : TabD) (c : Int) (w : World) (h : RdTb w v t) (hd : DimT t) :
    Calls Try.prog 184 #[v, .int .i64 c] w fun e w' => e = .returned (.bool (inB 0 ((colsT t : Nat) - 1) c)) ∧ Below w.heap.size w w' := by
  have HRT := Lib.hid h
  have h17 := hd.w17
  obtain ⟨a, cc, b, d, rfl⟩ := h.shape
  have HW := Lib.hid (fun X (hb : Below w.heap.size w X) => tabWide_any _ t X (HRT.out.up hb (Nat.le_refl _)) hd)
  obtain ⟨C, hC⟩ : ∃ C, C = colsT t := ⟨_, rfl⟩
  have hWC : wdT t = C + 1 := by rw [hC]; rfl
  rw [hWC] at HW h17
  rw [← hC]
  have hw1 : IntKind.i64.wrap (((C + 1 : Nat) : Int) - 1) = (C : Int) := by rw [IntWalk.i64_in _ (by omega)]; omega
  obtain ⟨W, hW⟩ : ∃ W : Int, W = ((C + 1 : Nat) : Int) := ⟨_, rfl⟩
  rw [← hW] at hw1 HW
  have HII := Lib.hid (fun X => isIndex_any c (C : Int) X (by omega) (by omega))
  clear h hd hC hWC hW HRT
  go_enter Try.func184, Try.ntmps184
  go_upto_region 1 with fail
  refine wp_at fun W0 hW0 => ?_
  have HB0 := Lib.hid (show Below w.heap.size w W0 by subst hW0; (repeat' first | exact Below.refl _ _ | assumption | refine Below.alloc ?_ ?_ _ | refine Below.setCell ?_ ?_ _ | refine Below.drew ?_ | (simp; done) | (simp; omega)))
  have HK0 := Lib.hid (show Blk W0 w.heap.size 136 #[.int .i64 t.vars, .slice a t.nums.length cc, .slice b t.basis.length d] by subst hW0; exact Blk.new _ _ _)
  clear hW0
  have d0 : W0.cell? ⟨w.heap.size, 0, none⟩ = some (.int .i64 t.vars) := HK0.out.cell 0 rfl
  have d1 : W0.cell? ⟨w.heap.size, 1, none⟩ = some (.slice a t.nums.length cc) := HK0.out.cell 1 rfl
  have d2 : W0.cell? ⟨w.heap.size, 2, none⟩ = some (.slice b t.basis.length d) := HK0.out.cell 2 rfl
  go_wp2_with (first
    | (go_at_call 151; refine (HW.out W0 HB0.out).mono ?_; rintro e w2 ⟨rfl, hb2⟩)
    | (go_at_call 185; refine (HII.out _).mono ?_; rintro e w3 ⟨rfl, rfl⟩))
  go_ret
  exact ⟨rfl, HB0.out.trans (hb2.mono HB0.out.size)⟩

theorem basOk_no {n : Nat} {l : List Int} {i : Nat} (hi : i < l.length) (h : (inB 0 ((n : Int) - 1) (l.getD i 0) && !hasB (l.take i) (l.getD i 0)) = false) : basOk n l = false := allB_false hi h

set_option maxHeartbeats 4000000 in
set_option maxRecDepth 8000 in
theorem validT_any (v : Value) (t : TabD) (w : World) (h : RdTb w v t) (hd : DimT t) :
    Calls Try.prog 181 #[v] w fun e w' => e = .returned (.bool (allFin t.nums && basOk (colsT t) t.basis)) ∧ Below w.heap.size w w' := by
  have HRT := Lib.hid h
  have h17 := hd.w17
  have hb8 := hd.b8
  have hb1 := hd.b1
  obtain ⟨a, c, b, d, rfl⟩ := h.shape
  have HBS := Lib.hid h.parts.2
  have HNS := Lib.hid h.parts.1
  have HI1 := Lib.hid (show inB 1 8 (t.vars : Int) = true by rw [inB_iff]; have := hd.v1; have := hd.v8; omega)
  have HI2 := Lib.hid (show inB 1 8 (t.basis.length : Int) = true by rw [inB_iff]; omega)
  have HW := Lib.hid (fun X (hb : Below w.heap.size w X) => tabWide_any _ t X (HRT.out.up hb (Nat.le_refl _)) hd)
  have HC := Lib.hid (fun X (hb : Below w.heap.size w X) (x : Int) => isColumn_any _ t x X (HRT.out.up hb (Nat.le_refl _)) hd)
  have HF := Lib.hid (fun X (hb : Below w.heap.size w X) => areFinite_any _ t.nums X (HNS.out.up hb (Nat.le_refl _)))
  have hm := hd.n153
  have hnl := hd.nl
  have HBN := Lib.hid (fun i hi h => @basOk_no (colsT t) t.basis i hi h)
  have HBY := Lib.hid (show (∀ i, i < t.basis.length → (inB 0 ((colsT t : Int) - 1) (t.basis.getD i 0) && !hasB (t.basis.take i) (t.basis.getD i 0)) = true) → basOk (colsT t) t.basis = true from fun h => allB_true h)
  obtain ⟨N, hN⟩ : ∃ N, N = t.basis.length := ⟨_, rfl⟩
  obtain ⟨M, hM⟩ : ∃ M, M = t.nums.length := ⟨_, rfl⟩
  obtain ⟨W, hW⟩ : ∃ W, W = wdT t := ⟨_, rfl⟩
  obtain ⟨C, hC⟩ : ∃ C, C = colsT t := ⟨_, rfl⟩
  obtain ⟨f, hf⟩ : ∃ f, f = allFin t.nums := ⟨_, rfl⟩
  have HN := Lib.hid hN.symm
  have HM := Lib.hid hM.symm
  rw [← hN] at HI2 hb8 hb1 HW HC HBS HBY HBN hnl
  rw [← hM, ← hW] at hnl
  rw [← hM] at hm HW HC HNS HF
  rw [← hW] at HW h17
  rw [← hC] at HC HBY HBN
  rw [← hf] at HF
  rw [← hN, ← hM, ← hf, ← hC]
  obtain ⟨N1, hN1⟩ : ∃ N1 : Int, N1 = (N : Int) + 1 := ⟨_, rfl⟩
  have e1 : IntKind.i64.wrap ((N : Int) + 1) = N1 := by rw [hN1]; exact IntWalk.i64_in _ (by omega)
  have e2 : IntKind.i64.wrap ((W : Int) * N1) = (M : Int) := by
    have : (W : Int) * N1 = (M : Int) := by rw [hN1, hnl]; push_cast; rfl
    rw [this]
    exact IntWalk.i64_in _ (by omega)
  have e3 : ((M : Int) != (M : Int)) = false := by simp
  clear h hd hN hM hW hC hf hnl hN1 HRT
  go_enter Try.func181, Try.ntmps181
  go_upto_region 1 with fail
  refine wp_at fun W0 hW0 => ?_
  have HB0 := Lib.hid (show Below w.heap.size w W0 by subst hW0; (repeat' first | exact Below.refl _ _ | assumption | refine Below.alloc ?_ ?_ _ | refine Below.setCell ?_ ?_ _ | refine Below.drew ?_ | (simp; done) | (simp; omega)))
  have HK0 := Lib.hid (show Blk W0 w.heap.size 136 #[.int .i64 t.vars, .slice a M c, .slice b N d] by subst hW0; exact Blk.new _ _ _)
  clear hW0
  have d0 : W0.cell? ⟨w.heap.size, 0, none⟩ = some (.int .i64 t.vars) := HK0.out.cell 0 rfl
  have d1 : W0.cell? ⟨w.heap.size, 1, none⟩ = some (.slice a M c) := HK0.out.cell 1 rfl
  have d2 : W0.cell? ⟨w.heap.size, 2, none⟩ = some (.slice b N d) := HK0.out.cell 2 rfl
  have hz0 := HB0.out.size
  cases f
  · skip
    refine wp_region_cls (fun X => X.cell? ⟨w.heap.size, 0, none⟩ = some (.int .i64 t.vars) ∧ X.cell? ⟨w.heap.size, 1, none⟩ = some (.slice a M c) ∧ X.cell? ⟨w.heap.size, 2, none⟩ = some (.slice b N d) ∧ Hid (Below W0.heap.size W0 X)) (by kernel_rfl) (by kernel_rfl) (⟨d0, d1, d2, (Below.refl _ _).drew⟩) ?_
    repeat (first
      | go_big_quiet_skip
      | (go_big_quiet_want
         apply Exists.intro
         refine ⟨fun X hX => ?_, ?_⟩
         · (try dsimp only at hX)
           go_simp
           (first | with_reducible rfl | done | (have hcur := hX.2.2.2; first | (go_at_call 64; refine (size_any _ _ (by unfold maxLen; omega)).mono ?_; rintro e w2 ⟨rfl, rfl⟩; exact ⟨rfl, hX⟩) | (go_at_call 65; refine (within_any _ _ _ _).mono ?_; rintro e w2 ⟨rfl, rfl⟩; (first | rw [HI1.out] | rw [HI2.out]); exact ⟨rfl, hX⟩) | (go_at_call 151; refine (HW.out X (HB0.out.trans (hcur.out.mono hz0))).mono ?_; rintro e w2 ⟨rfl, hb2⟩; have hbn := hcur.out.trans (hb2.mono hcur.out.size); exact ⟨rfl, held_of hbn d0 (Nat.le_refl _), held_of hbn d1 (Nat.le_refl _), held_of hbn d2 (Nat.le_refl _), hbn⟩) | (go_at_call 153; refine (HF.out X (HB0.out.trans (hcur.out.mono hz0))).mono ?_; rintro e w2 ⟨rfl, k, rfl⟩; exact ⟨rfl, hX.1, hX.2.1, hX.2.2.1, below_drewN hX.2.2.2.out _⟩)))
         go_big_quiet_on
         (try simp only [Act.put, List.setIfInBounds_toArray, List.set_cons_zero, List.set_cons_succ])))
    refine wpQuiet_nil ?_
    intro w1 hC
    (try dsimp only at hC)
    go_wp2_with fail
    go_ret
    exact ⟨rfl, HB0.out.trans (hC.2.2.2.out.mono hz0)⟩
  · skip
    refine wp_region_cls (fun X => X.cell? ⟨w.heap.size, 0, none⟩ = some (.int .i64 t.vars) ∧ X.cell? ⟨w.heap.size, 1, none⟩ = some (.slice a M c) ∧ X.cell? ⟨w.heap.size, 2, none⟩ = some (.slice b N d) ∧ Hid (Below W0.heap.size W0 X)) (by kernel_rfl) (by kernel_rfl) (⟨d0, d1, d2, (Below.refl _ _).drew⟩) ?_
    repeat (first
      | go_big_quiet_skip
      | (go_big_quiet_want
         apply Exists.intro
         refine ⟨fun X hX => ?_, ?_⟩
         · (try dsimp only at hX)
           go_simp
           (first | with_reducible rfl | done | (have hcur := hX.2.2.2; first | (go_at_call 64; refine (size_any _ _ (by unfold maxLen; omega)).mono ?_; rintro e w2 ⟨rfl, rfl⟩; exact ⟨rfl, hX⟩) | (go_at_call 65; refine (within_any _ _ _ _).mono ?_; rintro e w2 ⟨rfl, rfl⟩; (first | rw [HI1.out] | rw [HI2.out]); exact ⟨rfl, hX⟩) | (go_at_call 151; refine (HW.out X (HB0.out.trans (hcur.out.mono hz0))).mono ?_; rintro e w2 ⟨rfl, hb2⟩; have hbn := hcur.out.trans (hb2.mono hcur.out.size); exact ⟨rfl, held_of hbn d0 (Nat.le_refl _), held_of hbn d1 (Nat.le_refl _), held_of hbn d2 (Nat.le_refl _), hbn⟩) | (go_at_call 153; refine (HF.out X (HB0.out.trans (hcur.out.mono hz0))).mono ?_; rintro e w2 ⟨rfl, k, rfl⟩; exact ⟨rfl, hX.1, hX.2.1, hX.2.2.1, below_drewN hX.2.2.2.out _⟩)))
         go_big_quiet_on
         (try simp only [Act.put, List.setIfInBounds_toArray, List.set_cons_zero, List.set_cons_succ])))
    refine wpQuiet_nil ?_
    intro w1 hC
    (try dsimp only at hC)
    have HB1 := Lib.hid (HB0.out.trans (hC.2.2.2.out.mono hz0))
    have HKw := Lib.hid (show Blk w1 w.heap.size 136 #[.int .i64 t.vars, .slice a M c, .slice b N d] from HK0.out.below hC.2.2.2.out HK0.out.lt)
    have d2 := hC.2.2.1
    have hz1 := HB1.out.size
    go_wp2_with fail
    go_loopw [39] (fun iv wr => ∃ i : Nat, iv = .int .i64 i ∧ i ≤ N ∧ Hid (∀ j, j < i → (inB 0 ((C : Int) - 1) (t.basis.getD j 0) && !hasB (t.basis.take j) (t.basis.getD j 0)) = true) ∧ Hid (Below w1.heap.size w1 wr)) (fun iv _ => N + 1 - (intOf iv).toNat)
    case atStart => exact ⟨0, rfl, Nat.zero_le _, Lib.hid (by intro j hj; omega), Lib.hid (Below.refl _ _)⟩
    case round =>
      obtain ⟨i, rfl, hi, HJ, HB⟩ := hrel
      obtain ⟨wo, rfl⟩ : ∃ wo, wo = wr := ⟨wr, rfl⟩
      have HBW := Lib.hid (HB1.out.trans (HB.out.mono hz1))
      have HKo := Lib.hid (HKw.out.below HB.out HKw.out.lt)
      have e0 : wo.cell? ⟨w.heap.size, 0, none⟩ = some (.int .i64 t.vars) := HKo.out.cell 0 rfl
      have e1 : wo.cell? ⟨w.heap.size, 1, none⟩ = some (.slice a M c) := HKo.out.cell 1 rfl
      have e2 : wo.cell? ⟨w.heap.size, 2, none⟩ = some (.slice b N d) := HKo.out.cell 2 rfl
      have hszo := HB.out.size
      by_cases hlt : i < N
      · have hltI : (i : Int) < (N : Int) := by omega
        have hrd := HBS.out.up HBW.out (Nat.le_refl _)
        obtain ⟨gb, go, rfl, _, h1⟩ := hrd.at (i := i) (by rw [HN.out]; exact hlt)
        have HTK := Lib.hid (rdI_take hrd i (by omega) HN.out)
        have hcap : N ≤ d := by
          rcases HBS.out with ⟨e, _⟩ | ⟨ad, c', e, q1, _, _⟩
          · cases e
          · simp only [Value.slice.injEq] at e
            obtain ⟨_, _, rfl⟩ := e
            rw [List.length_map, HN.out] at q1
            exact q1
        have HJ2 := Lib.hid (fun (h : (inB 0 ((C : Int) - 1) (t.basis.getD i 0) && !hasB (t.basis.take i) (t.basis.getD i 0)) = true) => (show ∀ j, j < i + 1 → (inB 0 ((C : Int) - 1) (t.basis.getD j 0) && !hasB (t.basis.take j) (t.basis.getD j 0)) = true from fun j hj => by
          by_cases e : j = i
          · rw [e]; exact h
          · exact HJ.out j (by omega)))
        have HNO := Lib.hid (HBN.out i hlt)
        obtain ⟨x, hx⟩ : ∃ x, x = t.basis.getD i 0 := ⟨_, rfl⟩
        rw [← hx] at h1 HJ2 HNO
        have HCX := Lib.hid (HC.out wo HBW.out x)
        have HHX := Lib.hid (fun X (hb : Below wo.heap.size wo X) => has_any (.slice (some ⟨gb, go, none⟩) i d) (t.basis.take i) x X (HTK.out.up hb (Nat.le_refl _)))
        obtain ⟨p1, hp1⟩ : ∃ p, p = inB 0 ((C : Int) - 1) x := ⟨_, rfl⟩
        obtain ⟨p2, hp2⟩ : ∃ p, p = hasB (t.basis.take i) x := ⟨_, rfl⟩
        rw [← hp1] at HCX HJ2 HNO
        rw [← hp2] at HHX HJ2 HNO
        clear hrd hx hp1 hp2
        cases p1
        · have HN2 := Lib.hid (HNO.out rfl)
          go_wp2_with (go_at_call 184; refine HCX.out.mono ?_; rintro e w2 ⟨rfl, hb2⟩)
          go_ret
          exact ⟨by rw [HN2.out]; rfl, HBW.out.trans (hb2.mono HBW.out.size)⟩
        · cases p2
          · have HJ3 := Lib.hid (HJ2.out rfl)
            go_wp2_with (first
              | (go_at_call 184; refine HCX.out.mono ?_; rintro e w2 ⟨rfl, hb2⟩; have e2 := (HKo.out.below hb2 HKo.out.lt).cell 2 rfl)
              | (go_at_call 138; refine (HHX.out w2 hb2).mono ?_; rintro e w3 ⟨rfl, rfl⟩))
            go_roundw
            case rel => exact ⟨i + 1, by go_num, by omega, HJ3, Lib.hid (HB.out.trans (hb2.mono hszo))⟩
            case measure => simp [intOf]; omega
          · have HN2 := Lib.hid (HNO.out rfl)
            go_wp2_with (first
              | (go_at_call 184; refine HCX.out.mono ?_; rintro e w2 ⟨rfl, hb2⟩; have e2 := (HKo.out.below hb2 HKo.out.lt).cell 2 rfl)
              | (go_at_call 138; refine (HHX.out w2 hb2).mono ?_; rintro e w3 ⟨rfl, rfl⟩))
            go_ret
            exact ⟨by rw [HN2.out]; rfl, HBW.out.trans (hb2.mono HBW.out.size)⟩
      · obtain rfl : i = N := by omega
        have HY := Lib.hid (HBY.out HJ.out)
        go_wp2_with fail
        go_ret
        exact ⟨by rw [HY.out]; rfl, HBW.out⟩

end Go.Proofs.Ytkfiepiipigcmaa

namespace Go.Proofs.Ytkfiepiipigcmaa
open Go.RowKit

theorem owns_types {w : World} {base base' size size' n n' : Nat} {e e' : TypeId} {v v' : Value} {vs vs' : List Value} (h : w.ownsRow base e size v n vs) (h' : w.ownsRow base' e' size' v' n' vs') (he : e ≠ e') : ∀ g, v.ownBlock = some g → v'.ownBlock ≠ some g := by
  intro g hg hg'
  rcases h.2 with ⟨rfl, _⟩ | ⟨g1, cap, cur, rfl, _, hb, _⟩
  · cases hg
  · rcases h'.2 with ⟨rfl, _⟩ | ⟨g2, cap2, cur2, rfl, _, hb2, _⟩
    · cases hg'
    · have e1 : g1 = g := Option.some.inj hg
      have e2 : g2 = g := Option.some.inj hg'
      subst e1
      subst e2
      rw [hb] at hb2
      simp only [Option.some.injEq, Obj.cells.injEq] at hb2
      exact he hb2.2.1
theorem owns_grown2 {w w' : World} {base : Nat} {e : TypeId} {v : Value} {n : Nat} {vs : List Value} {row : Option Nat} (h : w.ownsRow base e 1 v n vs) (hg : w.grownBy w' row) (hn : ∀ g, v.ownBlock = some g → row ≠ some g) : w'.ownsRow base e 1 v n vs :=
  owns_kept (S := fun k => row = some k) h ⟨hg.os, hg.tape, hg.output, hg.size, fun k hk hs => hg.block k hk fun e => hs e.symm⟩ hn

end Go.Proofs.Ytkfiepiipigcmaa
