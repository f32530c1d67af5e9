/-
  FnExactClimbPlan: texts joined: PlanS, ClimbS, OpenI.
-/
import Derived.ProofKit
import Derived.OpenShut
import Derived.Test.YtkmbkjbammpdhaaMEClimbPlanAA
import Derived.Test.YtkmbkjbammpdhaaMEClimbPlanAI
import Derived.Test.YtkmbkjbammpdhaaMEClimbPlanAJ
namespace Go.Proofs.Ytkmbkjbammpdhaa
open Go.RowKit

noncomputable def wbUp (r : RowsD) (B n : Nat) : Nat → WB
  | 0 => (none, 0)
  | N + 1 => if wholeB r (digB B n N) = true then wbStep r (wbUp r B n N) (digB B n N) else wbUp r B n N
theorem wbUp_succ (r : RowsD) (B n N : Nat) : wbUp r B n (N + 1) = if wholeB r (digB B n N) = true then wbStep r (wbUp r B n N) (digB B n N) else wbUp r B n N := rfl
theorem wbUp_all (r : RowsD) (top n : Nat) : wbAll r (wSols r top n []) = wbUp r (top + 1) n ((top + 1) ^ n) := by
  rw [wSols_dig]
  generalize (top + 1) ^ n = K
  induction K with
  | zero => rfl
  | succ K ih =>
    rw [List.range_succ, List.flatMap_append, wbUp_succ, ← ih]
    unfold wbAll
    rw [List.foldl_append]
    by_cases h : wholeB r (digB (top + 1) n K) = true <;> simp [h]

/-- The best one so far, in a slice of its own. -/
def BS (base n : Nat) (o : Option (List Int)) (bv : Value) (w : World) : Prop :=
  (o = none ∧ ∃ a, bv = .slice a 0 0) ∨ ∃ s gb cap, o = some s ∧ bv = .slice (some ⟨gb, 0, none⟩) n cap ∧ w.ownsRow base 2 1 (.slice (some ⟨gb, 0, none⟩) n cap) n (s.map I64)
theorem BS.up {base n : Nat} {o : Option (List Int)} {bv : Value} {w w' : World} (h : BS base n o bv w) (hb : Below w.heap.size w w') : BS base n o bv w' := by
  rcases h with h | ⟨s, gb, cap, h1, h2, h3⟩
  · exact .inl h
  · exact .inr ⟨s, gb, cap, h1, h2, owns_below h3 hb (Nat.le_refl _)⟩
theorem BS.kept {base n g : Nat} {o : Option (List Int)} {bv : Value} {w w' : World} (h : BS base n o bv w) (hk : Kept (· = g) w w') (hg : g < base) : BS base n o bv w' := by
  rcases h with h | ⟨s, gb, cap, h1, h2, h3⟩
  · exact .inl h
  · refine .inr ⟨s, gb, cap, h1, h2, owns_kept h3 hk ?_⟩
    intro b hb
    have := (owns_lt h3 hb).1
    show ¬ (b = g)
    omega

theorem specGain_b (q : Bool) (y : Nat) (v : Value) (r : RowsD) (u : Value) (x : List Nat) (w : World) (h : RdR w v r) (hu : RdF w u x) (hq : gainOk r x = q) (hy : gainV r x = y) :
    Calls Try.prog 103 #[v, u] w fun e w' => e = .returned (.tuple #[.float .f32 y, .bool q]) ∧ Below w.heap.size w w' := by
  have := specGain_any v r u x w h hu
  rw [hq, hy] at this
  exact this

set_option maxHeartbeats 4000000 in
set_option maxRecDepth 4000 in
theorem l07Best_any (bb : Nat) (a1 : Option Addr) (c1 : Nat) (a2 : Option Addr) (c2 : Nat) (a3 : Option Addr) (c3 : Nat) (r : RowsD) (T : Nat) (w : World) (ht : topB r (T : Int) = true)
    (hk : Blk w bb 26 #[.int .i64 r.vars, .slice a1 r.nums.length c1, .slice a2 r.bnds.length c2, .slice a3 r.gains.length c3]) (h : RdR w (.agg #[.int .i64 r.vars, .slice a1 r.nums.length c1, .slice a2 r.bnds.length c2, .slice a3 r.gains.length c3]) r) :
    Calls Try.prog 99 #[.pointer (some ⟨bb, 0, none⟩), .int .i64 T] w fun e w' => ∃ bv, e = .returned (.tuple #[bv, .float .f32 (planY r T), .bool (planOk r T)]) ∧ BS w.heap.size r.gains.length (planB r T).1 bv w' ∧ Below w.heap.size w w' := by
  obtain ⟨i0, hi, hz0, hz1, hz2⟩ := info_parts Try.infoI64
  have HP := Lib.hid h
  have HK := Lib.hid hk
  have HQ := Lib.hid ht
  obtain ⟨hv, h4, t1, t5⟩ := topB_parts ht
  have hgl := hv.gl
  obtain ⟨n, hn⟩ : ∃ n, n = r.gains.length := ⟨_, rfl⟩
  have HN := Lib.hid (show planB r (T : Int) = wbUp r (T + 1) n ((T + 1) ^ n) by unfold planB; rw [ht, if_pos rfl, ← wbUp_all, hn]; rfl)
  have hvn : r.vars = (n : Int) := by rw [hn]; exact hgl.symm
  have HVN := Lib.hid hvn
  have HNN := Lib.hid hn
  have hn4 : n ≤ 4 := by omega
  have hn1 : 1 ≤ n := by have := hv.v1; omega
  have d0 : w.cell? ⟨bb, 0, none⟩ = some (.int .i64 n) := by have := hk.cell 0 rfl; rwa [hvn] at this
  have hbw := hk.lt
  have hpw : (T + 1) ^ n ≤ 1296 := by
    have h2 : (T + 1) ^ n ≤ 6 ^ 4 := Nat.le_trans (Nat.pow_le_pow_left (by omega) _) (Nat.pow_le_pow_right (by decide) (by omega))
    have : 6 ^ 4 = 1296 := by decide
    omega
  have hpp : 0 < (T + 1) ^ n := Nat.pow_pos (by omega)
  obtain ⟨P, hP⟩ : ∃ P, P = (T + 1) ^ n := ⟨_, rfl⟩
  rw [← hP] at hpw hpp HN
  have HPP := Lib.hid hP
  have hn0 : ((n : Int) == 0) = false := by simp; omega
  clear hgl hv hn hvn h hk ht hP
  go_enter Try.func99, Try.ntmps99
  go_wp2_with (at_make; refine wpList_make_full _ rfl _ _ 36 rfl w.heap.size 2 i0 (.int .i64 0) 1 Try.underlying36 hi hz0 hz1 .i64 .i64 n n n rfl rfl rfl rfl (by rw [hz2]; omega) (by unfold maxLen; omega) (by simp) ?_; intro w2 hown hgrow)
  have hb2 : Below w.heap.size w w2 := (Below.refl _ _).grown hgrow (by simp) (by intro k hk; cases hk)
  have hg2 := (owns_lt hown (k := w.heap.size) (by first | rfl | (simp [Value.ownBlock]))).2
  have hz : (madeCells (Value.int .i64 0).cells (n * 1)).toList = (digB (T + 1) n 0).map I64 := by
    rw [digB_zero]; simpa [Value.cells, I64] using toList_madeCells_one (Value.int .i64 0) n
  rw [hz] at hown
  refine wp_at fun W hW => ?_
  have HZ := Lib.hid (show W.ownsRow w.heap.size 2 1 (.slice (some ⟨w.heap.size, 0, none⟩) n n) n ((digB (T + 1) n 0).map I64) by subst hW; exact hown.alloc _)
  have HB2 := Lib.hid (show Below w.heap.size w W by subst hW; exact hb2.alloc hb2.size _)
  have HK2 := Lib.hid (HK.out.below HB2.out hbw)
  have hWz : w2.heap.size ≤ W.heap.size := by subst hW; simp
  clear hW hown hb2 hgrow hz d0
  obtain ⟨g, hg⟩ : ∃ g, g = w.heap.size := ⟨_, rfl⟩
  rw [← hg] at HZ hg2
  have HG := Lib.hid hg
  have hgb : bb < g := by omega
  have hgB : g < w2.heap.size := hg2
  have hwg : w.heap.size ≤ g := by omega
  rw [show (Value.slice (some ⟨w.heap.size, 0, none⟩) n n) = Value.slice (some ⟨g, 0, none⟩) n n by rw [hg]]
  clear hg
  go_loopw [8, 9, 10] (fun bv my m wr => ∃ N : Nat, ∃ bv' : Value, bv' = bv ∧ N ≤ P ∧ w2.heap.size ≤ wr.heap.size ∧ Hid (BS w2.heap.size n (wbUp r (T + 1) n N).1 bv' wr) ∧ my = .float .f32 (wbUp r (T + 1) n N).2 ∧ m = .bool (decide (N < P)) ∧ Hid (wr.ownsRow w.heap.size 2 1 (.slice (some ⟨g, 0, none⟩) n n) n ((digB (T + 1) n (N % P)).map I64)) ∧ Hid (Blk wr bb 26 #[.int .i64 r.vars, .slice a1 r.nums.length c1, .slice a2 r.bnds.length c2, .slice a3 r.gains.length c3]) ∧ Hid (Below w.heap.size w wr)) (fun _ _ m wr => match m with | .bool true => P - digAt (T + 1) g n wr | _ => 0)
  case atStart => exact ⟨0, _, rfl, Nat.zero_le _, hWz, Lib.hid (.inl ⟨rfl, _, rfl⟩), rfl, by rw [decide_eq_true hpp], by rw [Nat.zero_mod]; exact Lib.hid (owns_base HZ.out (by omega)), HK2, HB2⟩
  case round =>
    obtain ⟨N, bv, rfl, hN, hwr2, HBS1, rfl, rfl, HO1, HK1, HB1⟩ := hrel
    have hwz1 := HB1.out.size
    by_cases hlt : N < P
    · have HUP := Lib.hid (wbUp_succ r (T + 1) n N)
      rw [decide_eq_true hlt]
      have HO2 := Lib.hid (show wr.ownsRow w.heap.size 2 1 (.slice (some ⟨g, 0, none⟩) n n) n ((digB (T + 1) n N).map I64) by have := HO1.out; rwa [Nat.mod_eq_of_lt hlt] at this)
      have HNX := Lib.hid (show nextL (T : Int) (digB (T + 1) n N) = (decide (N + 1 < P), digB (T + 1) n ((N + 1) % P)) by have := next_dig T n N (by rw [← HPP.out]; exact hlt); rwa [← HPP.out] at this)
      have HAT := Lib.hid (fun i hi => digB_at (T + 1) (by omega) n N i (by rw [← HPP.out]; exact hlt) hi)
      have HXL := Lib.hid (digB_len (T + 1) n N)
      have HMU := Lib.hid (digAt_owns (by omega) HO2.out)
      obtain ⟨st, hst⟩ : ∃ st, st = wbUp r (T + 1) n N := ⟨_, rfl⟩
      rw [← hst] at HUP HBS1
      rw [← hst]
      clear hst
      obtain ⟨x, hx⟩ : ∃ x, x = digB (T + 1) n N := ⟨_, rfl⟩
      rw [← hx] at HUP HO2 HNX HAT HXL
      clear hx HO1
      obtain ⟨q, hq⟩ : ∃ q, q = wholeB r x := ⟨_, rfl⟩
      have HWQ := Lib.hid (show wokB r x T = q by
        unfold wokB
        rw [show ((x.length : Int) == r.vars) = true by rw [HXL.out, HVN.out]; simp, allB_true (fun j hj => ?_), ← hq]
        · simp
        · have hj2 := HAT.out j (by have := HXL.out; omega)
          exact inB_iff.2 ⟨hj2.1, by omega⟩)
      rw [← hq] at HUP
      clear hq
      have HEND := Lib.hid (show ∀ w4 : World, w4.ownsRow w.heap.size 2 1 (.slice (some ⟨g, 0, none⟩) n n) n ((digB (T + 1) n ((N + 1) % P)).map I64) → (match Value.bool (decide (N + 1 < P)) with | .bool true => P - digAt (T + 1) g n w4 | _ => 0) < P - N by
        intro w4 ho
        by_cases h1 : N + 1 < P
        · rw [Nat.mod_eq_of_lt h1] at ho
          rw [decide_eq_true h1]
          have := digAt_owns (by omega) ho
          simp only [this]
          omega
        · rw [decide_eq_false h1]
          simp only
          omega)
      obtain ⟨o, z⟩ := st
      simp only at HBS1
      obtain ⟨ba, bl, bc, hbv, hbl⟩ : ∃ ba bl bc, bv = .slice ba bl bc ∧ bl ≤ 4 := by
        rcases HBS1.out with ⟨_, a, h⟩ | ⟨_, _, _, _, h, _⟩
        · exact ⟨_, _, _, h, by omega⟩
        · exact ⟨_, _, _, h, hn4⟩
      subst hbv
      go_wp2_with fail
      have hsl : RdI wr (.slice (some ⟨g, 0, none⟩) n n) x := slc_of_owns HO2.out
      refine (l07Whole_any bb _ _ _ _ r _ x T wr HK1.out (HP.out.up HB1.out (Nat.le_refl _)) hsl (by rw [HVN.out]; omega)).mono ?_
      rintro e w3 ⟨rfl, hb3⟩
      rw [HWQ.out]
      have HO3 := Lib.hid (owns_below HO2.out hb3 (Nat.le_refl _))
      have HK3 := Lib.hid (HK1.out.below hb3 HK1.out.lt)
      have HB3 := Lib.hid (HB1.out.trans (hb3.mono hwz1))
      have HBS3 := Lib.hid (HBS1.out.up hb3)
      have hz13 := hb3.size
      clear hb3 hsl
      cases q
      · have HU2 := Lib.hid (show wbUp r (T + 1) n (N + 1) = (o, z) by rw [HUP.out]; rfl)
        clear HUP
        go_wp2_with fail
        refine (l07Next_any w.heap.size g n x n (T : Int) w3 HXL.out (by omega) t5 (fun i hi => (HAT.out i hi).1) HO3.out).mono ?_
        rintro e w4 ⟨rfl, ho4, hk4⟩
        rw [HNX.out] at ho4 ⊢
        have hz4 := hk4.size
        have HB4 := Lib.hid (HB3.out.trans (hk4.toBelow HB3.out.size (by rintro k h1 rfl; omega)))
        have HK4 := Lib.hid (HK3.out.kept hk4 (by show ¬ (bb = g); omega))
        have HBS4 := Lib.hid (HBS3.out.kept hk4 hgB)
        have HO4 := Lib.hid ho4
        clear ho4 hk4
        go_wp2_with fail
        go_roundw
        case rel => exact ⟨N + 1, _, rfl, hlt, by omega, by rw [HU2.out]; exact HBS4, by rw [HU2.out], rfl, HO4, HK4, HB4⟩
        case measure => simp only [HMU.out]; exact HEND.out _ HO4.out
      · have d0 : w3.cell? ⟨bb, 0, none⟩ = some (.int .i64 r.vars) := HK3.out.cell 0 rfl
        have d1 : w3.cell? ⟨bb, 1, none⟩ = some (.slice a1 r.nums.length c1) := HK3.out.cell 1 rfl
        have d2 : w3.cell? ⟨bb, 2, none⟩ = some (.slice a2 r.bnds.length c2) := HK3.out.cell 2 rfl
        have d3 : w3.cell? ⟨bb, 3, none⟩ = some (.slice a3 r.gains.length c3) := HK3.out.cell 3 rfl
        have HU1 := Lib.hid (show wbUp r (T + 1) n (N + 1) = wbStep r (o, z) x by rw [HUP.out]; rfl)
        clear HUP
        obtain ⟨q, hq⟩ : ∃ q, gainOk r (x.map fI) = q := ⟨_, rfl⟩
        obtain ⟨y, hy⟩ : ∃ y, gainV r (x.map fI) = y := ⟨_, rfl⟩
        have HGQ := Lib.hid hq
        have HGY := Lib.hid hy
        clear hq hy
        have hx8 : x.length ≤ 8 := by have := HXL.out; omega
        go_wp2_with fail
        go_region_held3 (fun X => X.cell? ⟨bb, 0, none⟩ = some (.int .i64 r.vars) ∧ X.cell? ⟨bb, 1, none⟩ = some (.slice a1 r.nums.length c1) ∧ X.cell? ⟨bb, 2, none⟩ = some (.slice a2 r.bnds.length c2) ∧ X.cell? ⟨bb, 3, none⟩ = some (.slice a3 r.gains.length c3) ∧ Below w3.heap.size w3 X)
          (first | exact ⟨held_of hbn d0 (Nat.le_refl _), held_of hbn d1 (Nat.le_refl _), held_of hbn d2 (Nat.le_refl _), held_of hbn d3 (Nat.le_refl _), hbn⟩ | exact ⟨d0, d1, d2, d3, (Below.refl _ _).drew⟩)
          (first
            | (go_at_call 104; have hh := (‹_ ∧ _ ∧ _ ∧ _ ∧ Below w3.heap.size w3 _›).2.2.2.2; refine (l07Floats_any _ x _ (Slc.below (slc_of_owns HO3.out) hh (Nat.le_refl _)) (by omega)).mono ?_; rintro e w1 ⟨nu, rfl, hnu, hb1⟩; have hbn := hh.trans (hb1.mono hh.size))
            | (go_at_call 103; have hh := (‹_ ∧ _ ∧ _ ∧ _ ∧ Below w3.heap.size w3 _›).2.2.2.2; refine (specGain_b q y _ r _ (x.map fI) _ (HP.out.up (HB3.out.trans (hh.mono HB3.out.size)) (Nat.le_refl _)) hnu HGQ.out HGY.out).mono ?_; rintro e w2' ⟨rfl, hb2⟩; have hbn := hh.trans (hb2.mono hh.size))
            | fail)
        have hb5 : Below w3.heap.size w3 w2' := hbn
        have HO5 := Lib.hid (owns_below HO3.out hb5 (Nat.le_refl _))
        have HK5 := Lib.hid (HK3.out.below hb5 HK3.out.lt)
        have HB5 := Lib.hid (HB3.out.trans (hb5.mono HB3.out.size))
        have HBS5 := Lib.hid (HBS3.out.up hb5)
        have hz5 := hb5.size
        clear hbn hb5 d0 d1 d2 d3
        cases q
        · have HU2 := Lib.hid (show wbUp r (T + 1) n (N + 1) = (o, z) by rw [HU1.out]; exact wbStep_no HGQ.out)
          go_wp2_with fail
          refine (l07Next_any w.heap.size g n x n (T : Int) w2' HXL.out (by omega) t5 (fun i hi => (HAT.out i hi).1) HO5.out).mono ?_
          rintro e w4 ⟨rfl, ho4, hk4⟩
          rw [HNX.out] at ho4 ⊢
          have hz4 := hk4.size
          have HB4 := Lib.hid (HB5.out.trans (hk4.toBelow HB5.out.size (by rintro k h1 rfl; omega)))
          have HK4 := Lib.hid (HK5.out.kept hk4 (by show ¬ (bb = g); omega))
          have HBS4 := Lib.hid (HBS5.out.kept hk4 hgB)
          have HO4 := Lib.hid ho4
          clear ho4 hk4
          go_wp2_with fail
          go_roundw
          case rel => exact ⟨N + 1, _, rfl, hlt, by omega, by rw [HU2.out]; exact HBS4, by rw [HU2.out], rfl, HO4, HK4, HB4⟩
          case measure => simp only [HMU.out]; exact HEND.out _ HO4.out
        · rcases HBS5.out with ⟨rfl, a, he⟩ | ⟨t, gb0, cap0, rfl, he, ho0⟩
          · simp only [Value.slice.injEq] at he
            obtain ⟨rfl, rfl, rfl⟩ := he
            have HU2 := Lib.hid (show wbUp r (T + 1) n (N + 1) = (some x, y) by rw [HU1.out, ← HGY.out]; exact wbStep_first HGQ.out)
            go_wp2_with (at_builtin; refine app_own rfl _ _ rfl w2'.heap.size ⟨w2'.heap.size, 0, none⟩ 0 0 [] rfl (owns_empty w2') _ x rfl (Slc.below (slc_of_owns HO5.out) ((Below.refl _ _).alloc (Nat.le_refl _) _) (Nat.le_refl _)) n x (by have := HXL.out; simp; omega) (by simp) (by omega) (by simp) ?_; intro gb cap6 w6 hown hbl hg6)
            have hb6 : Below w2'.heap.size w2' w6 := ((Below.refl _ _).alloc (Nat.le_refl _) _).trans hbl
            have hz6 := hb6.size
            have HO6 := Lib.hid (owns_below HO5.out hb6 (Nat.le_refl _))
            have HK6 := Lib.hid (HK5.out.below hb6 HK5.out.lt)
            have HB6 := Lib.hid (HB5.out.trans (hb6.mono HB5.out.size))
            have HBS6 : Hid (BS w2.heap.size n (some x) (.slice (some ⟨gb, 0, none⟩) n cap6) w6) := Lib.hid (.inr ⟨x, gb, cap6, rfl, rfl, owns_base hown (by omega)⟩)
            clear hown hbl hg6 hb6
            go_wp2_with fail
            refine (l07Next_any w.heap.size g n x n (T : Int) w6 HXL.out (by omega) t5 (fun i hi => (HAT.out i hi).1) HO6.out).mono ?_
            rintro e w4 ⟨rfl, ho4, hk4⟩
            rw [HNX.out] at ho4 ⊢
            have hz4 := hk4.size
            have HB4 := Lib.hid (HB6.out.trans (hk4.toBelow HB6.out.size (by rintro k h1 rfl; omega)))
            have HK4 := Lib.hid (HK6.out.kept hk4 (by show ¬ (bb = g); omega))
            have HBS4 := Lib.hid (HBS6.out.kept hk4 hgB)
            have HO4 := Lib.hid ho4
            clear ho4 hk4
            go_wp2_with fail
            go_roundw
            case rel => exact ⟨N + 1, _, rfl, hlt, by omega, by rw [HU2.out]; exact HBS4, by rw [HU2.out], rfl, HO4, HK4, HB4⟩
            case measure => simp only [HMU.out]; exact HEND.out _ HO4.out
          · simp only [Value.slice.injEq] at he
            obtain ⟨rfl, hbln, rfl⟩ := he
            have hbln' := hbln.symm
            subst hbln'
            clear hbln
            cases hq : gtB y z
            · have hq' : (FloatKind.f32.format.order y z == some .gt) = false := hq
              have HU2 := Lib.hid (show wbUp r (T + 1) n (N + 1) = (some t, z) by rw [HU1.out]; exact wbStep_less HGQ.out (by rw [HGY.out]; exact hq))
              clear hq ho0
              go_wp2_with fail
              refine (l07Next_any w.heap.size g n x n (T : Int) w2' HXL.out (by omega) t5 (fun i hi => (HAT.out i hi).1) HO5.out).mono ?_
              rintro e w4 ⟨rfl, ho4, hk4⟩
              rw [HNX.out] at ho4 ⊢
              have hz4 := hk4.size
              have HB4 := Lib.hid (HB5.out.trans (hk4.toBelow HB5.out.size (by rintro k h1 rfl; omega)))
              have HK4 := Lib.hid (HK5.out.kept hk4 (by show ¬ (bb = g); omega))
              have HBS4 := Lib.hid (HBS5.out.kept hk4 hgB)
              have HO4 := Lib.hid ho4
              clear ho4 hk4
              go_wp2_with fail
              go_roundw
              case rel => exact ⟨N + 1, _, rfl, hlt, by omega, by rw [HU2.out]; exact HBS4, by rw [HU2.out], rfl, HO4, HK4, HB4⟩
              case measure => simp only [HMU.out]; exact HEND.out _ HO4.out
            · have hq' : (FloatKind.f32.format.order y z == some .gt) = true := hq
              have HU2 := Lib.hid (show wbUp r (T + 1) n (N + 1) = (some x, y) by rw [HU1.out, ← HGY.out]; exact wbStep_more HGQ.out (by rw [HGY.out]; exact hq))
              clear hq ho0
              go_wp2_with (at_builtin; refine app_own rfl _ _ rfl w2'.heap.size ⟨w2'.heap.size, 0, none⟩ 0 0 [] rfl (owns_empty w2') _ x rfl (Slc.below (slc_of_owns HO5.out) ((Below.refl _ _).alloc (Nat.le_refl _) _) (Nat.le_refl _)) n x (by have := HXL.out; simp; omega) (by simp) (by omega) (by simp) ?_; intro gb cap6 w6 hown hbl hg6)
              have hb6 : Below w2'.heap.size w2' w6 := ((Below.refl _ _).alloc (Nat.le_refl _) _).trans hbl
              have hz6 := hb6.size
              have HO6 := Lib.hid (owns_below HO5.out hb6 (Nat.le_refl _))
              have HK6 := Lib.hid (HK5.out.below hb6 HK5.out.lt)
              have HB6 := Lib.hid (HB5.out.trans (hb6.mono HB5.out.size))
              have HBS6 : Hid (BS w2.heap.size n (some x) (.slice (some ⟨gb, 0, none⟩) n cap6) w6) := Lib.hid (.inr ⟨x, gb, cap6, rfl, rfl, owns_base hown (by omega)⟩)
              clear hown hbl hg6 hb6
              go_wp2_with fail
              refine (l07Next_any w.heap.size g n x n (T : Int) w6 HXL.out (by omega) t5 (fun i hi => (HAT.out i hi).1) HO6.out).mono ?_
              rintro e w4 ⟨rfl, ho4, hk4⟩
              rw [HNX.out] at ho4 ⊢
              have hz4 := hk4.size
              have HB4 := Lib.hid (HB6.out.trans (hk4.toBelow HB6.out.size (by rintro k h1 rfl; omega)))
              have HK4 := Lib.hid (HK6.out.kept hk4 (by show ¬ (bb = g); omega))
              have HBS4 := Lib.hid (HBS6.out.kept hk4 hgB)
              have HO4 := Lib.hid ho4
              clear ho4 hk4
              go_wp2_with fail
              go_roundw
              case rel => exact ⟨N + 1, _, rfl, hlt, by omega, by rw [HU2.out]; exact HBS4, by rw [HU2.out], rfl, HO4, HK4, HB4⟩
              case measure => simp only [HMU.out]; exact HEND.out _ HO4.out
    · obtain rfl : N = P := by omega
      rw [decide_eq_false hlt]
      rw [← HN.out] at HBS1 ⊢
      have HPY := Lib.hid (show planY r (T : Int) = (planB r (T : Int)).2 from rfl)
      have HPO := Lib.hid (show planOk r (T : Int) = (planB r (T : Int)).1.isSome from rfl)
      rw [← HPY.out]
      rcases HBS1.out with ⟨h1, a, rfl⟩ | ⟨s, gb, cap, h1, rfl, h3⟩
      · have H1 := Lib.hid h1
        clear h1
        go_wp2_with fail
        go_ret3
        exact ⟨_, by rw [HPO.out, H1.out]; rfl, by rw [← HNN.out]; exact .inl ⟨H1.out, _, rfl⟩, HB1.out⟩
      · have H1 := Lib.hid h1
        have H3 := Lib.hid h3
        have hp1 : 0 < n := by omega
        clear h1 h3
        go_wp2_with fail
        go_ret3
        exact ⟨_, by rw [HPO.out, H1.out]; rfl, by rw [← HNN.out]; exact .inr ⟨s, gb, cap, H1.out, rfl, owns_base H3.out (by omega)⟩, HB1.out⟩

end Go.Proofs.Ytkmbkjbammpdhaa

namespace Go.Proofs.Ytkmbkjbammpdhaa
open Go.RowKit

set_option maxHeartbeats 8000000 in
set_option maxRecDepth 8000 in
theorem specClimb_any (v : Value) (r : RowsD) (u : Value) (x : List Int) (top : Int) (w : World) (h : RdR w v r) (hu : RdI w u x) :
    Calls Try.prog 30 #[v, u, .int .i64 top] w fun e w' => ∃ v', e = .returned (.tuple #[v', .int .i64 (climbN r x top), .bool (climbOk r x top)]) ∧ OwnI w.heap.size w'.heap.size w' v' (climbL r x top) ∧ Below w.heap.size w w' := by
  obtain ⟨a1, c1, a2, c2, a3, c3, rfl⟩ := h.shape
  obtain ⟨ax, cx, rfl⟩ := hu.shape
  have hxl := hu.len
  unfold maxLen at hxl
  have HP := Lib.hid h
  have HU := Lib.hid hu
  clear h hu
  have HNO := Lib.hid (show climbOk r x top = false → climbN r x top = 0 ∧ climbL r x top = [] from fun h => by unfold climbN climbL; rw [h]; exact ⟨rfl, rfl⟩)
  obtain ⟨q1, h1⟩ : ∃ q, topB r top = q := ⟨_, rfl⟩
  obtain ⟨q2, h2⟩ : ∃ q, wokB r x top = q := ⟨_, rfl⟩
  have HC := Lib.hid (show climbOk r x top = (q1 && (q2 && gainOk r (x.map fI))) by unfold climbOk; rw [h1, h2])
  have H1 := Lib.hid h1
  have H2 := Lib.hid h2
  clear h1 h2
  go_enter Try.func30, Try.ntmps30
  go_wp2_with fail
  refine Calls.at fun W hW => ?_
  have HB := Lib.hid (show Below w.heap.size w W by subst hW; (repeat' first | exact Below.refl _ _ | assumption | refine Below.alloc ?_ ?_ _ | refine Below.setCell ?_ ?_ _ | refine Below.drew ?_ | (simp; done) | (simp; omega)))
  have HK := Lib.hid (show Blk W w.heap.size 26 #[.int .i64 r.vars, .slice a1 r.nums.length c1, .slice a2 r.bnds.length c2, .slice a3 r.gains.length c3] by subst hW; exact Blk.new _ _ _)
  clear hW
  refine (l07Rows_any w.heap.size _ _ _ _ r top W HK.out (HP.out.up HB.out (Nat.le_refl _))).mono ?_
  rintro e w0 ⟨rfl, m0, rfl⟩
  rw [H1.out]
  have HB0 := Lib.hid (below_drewN HB.out m0)
  have HK0 := Lib.hid (show Blk (W.drewN m0) w.heap.size 26 #[.int .i64 r.vars, .slice a1 r.nums.length c1, .slice a2 r.bnds.length c2, .slice a3 r.gains.length c3] from HK.out)
  obtain ⟨W0, hW0⟩ : ∃ W0, W0 = W.drewN m0 := ⟨_, rfl⟩
  rw [← hW0] at HB0 HK0 ⊢
  clear hW0
  cases q1
  · have HN := Lib.hid (show climbOk r x top = false by rw [HC.out]; simp)
    go_wp2_with fail
    go_ret3
    exact ⟨_, by rw [HN.out, (HNO.out HN.out).1]; rfl, by rw [(HNO.out HN.out).2]; exact ⟨World.ownsRow_nil _ _ _ _, by intro g hg; cases hg⟩, HB0.out⟩
  obtain ⟨hv, hv4, t1, t5⟩ := topB_parts H1.out
  have hgl := hv.gl
  have hv1 := hv.v1
  clear hv
  go_wp2_with fail
  refine (l07Whole_any w.heap.size _ _ _ _ r _ x top W0 HK0.out (HP.out.up HB0.out (Nat.le_refl _)) (HU.out.up HB0.out (Nat.le_refl _)) (by omega)).mono ?_
  rintro e w1 ⟨rfl, hb1⟩
  rw [H2.out]
  have HB1 := Lib.hid (HB0.out.trans (hb1.mono HB0.out.size))
  have HK1 := Lib.hid (HK0.out.below hb1 HK0.out.lt)
  clear hb1
  cases q2
  · have HN := Lib.hid (show climbOk r x top = false by rw [HC.out]; simp)
    go_wp2_with fail
    go_ret3
    exact ⟨_, by rw [HN.out, (HNO.out HN.out).1]; rfl, by rw [(HNO.out HN.out).2]; exact ⟨World.ownsRow_nil _ _ _ _, by intro g hg; cases hg⟩, HB1.out⟩
  obtain ⟨n, hn⟩ : ∃ n, n = r.gains.length := ⟨_, rfl⟩
  have hvn : r.vars = (n : Int) := by rw [hn]; exact hgl.symm
  have HGD := Lib.hid (good_of_wok hvn H2.out)
  have hxn : x.length = n := HGD.out.1
  have hn1 : 1 ≤ n := by omega
  have hn4 : n ≤ 4 := by omega
  have HVN := Lib.hid hvn
  have HXN := Lib.hid hxn
  have hz1 := HB1.out.size
  have hkl := HK1.out.lt
  have hx8 : x.length ≤ 8 := by omega
  clear hgl hv1 hv4 hn hvn HB HK HB0 HK0 hxn
  go_wp2_with (at_builtin; refine app_own rfl _ _ rfl w1.heap.size ⟨w1.heap.size, 0, none⟩ 0 0 [] rfl (owns_empty w1) _ x rfl (Slc.below (HU.out.up HB1.out (Nat.le_refl _)) ((Below.refl _ _).alloc (Nat.le_refl _) _) (Nat.le_refl _)) n x (by have := HXN.out; simp; omega) (by simp) (by omega) (by simp) ?_; intro g0 cap0 w2 hown hbl hg6)
  have hb2 : Below w1.heap.size w1 w2 := ((Below.refl _ _).alloc (Nat.le_refl _) _).trans hbl
  have HO2 := Lib.hid hown
  have HB2 := Lib.hid (HB1.out.trans (hb2.mono hz1))
  have HK2 := Lib.hid (HK1.out.below hb2 HK1.out.lt)
  clear hown hb2 hbl hg6
  obtain ⟨q, hq⟩ : ∃ q, gainOk r (x.map fI) = q := ⟨_, rfl⟩
  obtain ⟨y, hy⟩ : ∃ y, gainV r (x.map fI) = y := ⟨_, rfl⟩
  have HGQ := Lib.hid hq
  have HGY := Lib.hid hy
  clear hq hy
  have d0 : w2.cell? ⟨w.heap.size, 0, none⟩ = some (.int .i64 r.vars) := HK2.out.cell 0 rfl
  have d1 : w2.cell? ⟨w.heap.size, 1, none⟩ = some (.slice a1 r.nums.length c1) := HK2.out.cell 1 rfl
  have d2 : w2.cell? ⟨w.heap.size, 2, none⟩ = some (.slice a2 r.bnds.length c2) := HK2.out.cell 2 rfl
  have d3 : w2.cell? ⟨w.heap.size, 3, none⟩ = some (.slice a3 r.gains.length c3) := HK2.out.cell 3 rfl
  go_wp2_with fail
  go_region_held3 (fun X => X.cell? ⟨w.heap.size, 0, none⟩ = some (.int .i64 r.vars) ∧ X.cell? ⟨w.heap.size, 1, none⟩ = some (.slice a1 r.nums.length c1) ∧ X.cell? ⟨w.heap.size, 2, none⟩ = some (.slice a2 r.bnds.length c2) ∧ X.cell? ⟨w.heap.size, 3, none⟩ = some (.slice a3 r.gains.length c3) ∧ Below w2.heap.size w2 X)
    (first | exact ⟨held_of hbn d0 (Nat.le_refl _), held_of hbn d1 (Nat.le_refl _), held_of hbn d2 (Nat.le_refl _), held_of hbn d3 (Nat.le_refl _), hbn⟩ | exact ⟨d0, d1, d2, d3, (Below.refl _ _).drew⟩)
    (first
      | (go_at_call 104; have hh := (‹_ ∧ _ ∧ _ ∧ _ ∧ Below w2.heap.size w2 _›).2.2.2.2; refine (l07Floats_any _ x _ (Slc.below (slc_of_owns HO2.out) hh (Nat.le_refl _)) (by omega)).mono ?_; rintro e wn1 ⟨nu, rfl, hnu, hb1⟩; have hbn := hh.trans (hb1.mono hh.size))
      | (go_at_call 103; have hh := (‹_ ∧ _ ∧ _ ∧ _ ∧ Below w2.heap.size w2 _›).2.2.2.2; refine (specGain_b q y _ r _ (x.map fI) _ (HP.out.up (HB2.out.trans (hh.mono HB2.out.size)) (Nat.le_refl _)) hnu HGQ.out HGY.out).mono ?_; rintro e w3 ⟨rfl, hb2⟩; have hbn := hh.trans (hb2.mono hh.size))
      | fail)
  have hb5 : Below w2.heap.size w2 w3 := hbn
  have HO3 := Lib.hid (owns_base (owns_below HO2.out hb5 (Nat.le_refl _)) hz1)
  have HB3 := Lib.hid (HB2.out.trans (hb5.mono HB2.out.size))
  have HK3 := Lib.hid (HK2.out.below hb5 HK2.out.lt)
  clear hbn hb5 d0 d1 d2 d3 hb1 hb2 hh hnu HO2 HB2 HK2
  cases q
  · have HN := Lib.hid (show climbOk r x top = false by unfold climbOk; rw [HGQ.out]; simp)
    go_wp2_with fail
    go_ret3
    exact ⟨_, by rw [HN.out, (HNO.out HN.out).1]; rfl, by rw [(HNO.out HN.out).2]; exact ⟨World.ownsRow_nil _ _ _ _, by intro g hg; cases hg⟩, HB3.out⟩
  have HYES := Lib.hid (show climbOk r x top = true by unfold climbOk; rw [H1.out, H2.out, HGQ.out]; rfl)
  have HFL := Lib.hid (show climbL r x top = (climb r top 1000 x y).1 by unfold climbL; rw [HYES.out, if_pos rfl, HGY.out])
  have HFN := Lib.hid (show climbN r x top = (climb r top 1000 x y).2 by unfold climbN; rw [HYES.out, if_pos rfl, HGY.out])
  clear HNO HC
  go_wp2_with fail
  go_loopw [9, 10, 12] (fun nv mv cv wr => ∃ (c : Nat) (now : List Int) (m g cap : Nat), nv = .slice (some ⟨g, 0, none⟩) n cap ∧ mv = .float .f32 m ∧ cv = .int .i64 c ∧ c ≤ 1000 ∧ Hid (Good n top now) ∧ Hid ((climb r top 1000 x y).1 = (climb r top (1000 - c) now m).1) ∧ Hid ((climb r top 1000 x y).2 = (c : Int) + (climb r top (1000 - c) now m).2) ∧ Hid (wr.ownsRow w.heap.size 2 1 (.slice (some ⟨g, 0, none⟩) n cap) n (now.map I64)) ∧ Hid (Blk wr w.heap.size 26 #[.int .i64 r.vars, .slice a1 r.nums.length c1, .slice a2 r.bnds.length c2, .slice a3 r.gains.length c3]) ∧ Hid (Below w.heap.size w wr)) (fun _ _ cv _ => 1001 - (intOf cv).toNat)
  case atStart => exact ⟨0, x, y, g0, cap0, rfl, rfl, rfl, by omega, HGD, rfl, (Int.zero_add _).symm, HO3, HK3, HB3⟩
  case round =>
    obtain ⟨c, now, m, g, cap, rfl, rfl, rfl, hc, HGN, HL1, HL2, HO, HK, HB⟩ := hrel
    obtain ⟨wo, rfl⟩ : ∃ wo, wo = wr := ⟨wr, rfl⟩
    have hzo := HB.out.size
    have hlb := HK.out.lt
    by_cases hclt : c < 1000
    case neg =>
      obtain rfl : c = 1000 := by omega
      have HF1 := Lib.hid (show climbL r x top = now by rw [HFL.out, HL1.out]; rfl)
      have HF2 := Lib.hid (show climbN r x top = (1000 : Int) by rw [HFN.out, HL2.out]; rfl)
      go_wp2_with fail
      go_ret3
      exact ⟨_, by rw [HYES.out, HF2.out]; rfl, by rw [HF1.out]; exact OwnI.mk HO.out, HB.out⟩
    have hcl : (c : Int) < 1000 := by omega
    go_wp2_with fail
    refine wp_at fun wa hwa => ?_
    have hba := Lib.hid (show Below wo.heap.size wo wa by subst hwa; (repeat' first | exact Below.refl _ _ | assumption | refine Below.alloc ?_ ?_ _ | refine Below.setCell ?_ ?_ _ | refine Below.drew ?_ | (simp; done) | (simp; omega)))
    have hza := hba.out.size
    clear hwa
    go_loopw [13, 14, 47] (fun bv mv kv wr => ∃ (k : Nat) (bv' : Value), bv' = bv ∧ kv = .int .i64 k ∧ k ≤ n ∧ mv = .float .f32 (cUp r top now m k).2 ∧ Hid (BS w.heap.size n (cUp r top now m k).1 bv' wr) ∧ Hid (Below wo.heap.size wo wr)) (fun _ _ kv _ => n - (intOf kv).toNat)
    case atStart => exact ⟨0, _, rfl, rfl, Nat.zero_le _, rfl, .inl ⟨rfl, _, rfl⟩, hba⟩
    case round =>
      obtain ⟨k, bv, rfl, rfl, hk, rfl, HBN, HBW⟩ := hrel
      by_cases hlt : k < n
      · obtain ⟨st, hst⟩ : ∃ st, st = cUp r top now m k := ⟨_, rfl⟩
        have HST := Lib.hid (show cUp r top now m (k + 1) = cIn r top now st k 2 by rw [hst]; rfl)
        rw [← hst] at HBN ⊢
        clear hst
        obtain ⟨wi, rfl⟩ : ∃ wi, wi = wr := ⟨wr, rfl⟩
        have hzi := HBW.out.size
        have hltI : (k : Int) < (n : Int) := by omega
        go_wp2_with fail
        go_loopw [13, 14, 16] (fun bv mv jv wr => ∃ (j : Nat) (b : WB) (bv' : Value), bv' = bv ∧ jv = .int .i64 (2 * (j : Int) - 1) ∧ j ≤ 2 ∧ b = cIn r top now st k j ∧ mv = .float .f32 b.2 ∧ Hid (BS w.heap.size n b.1 bv' wr) ∧ Hid (Below wi.heap.size wi wr)) (fun _ _ jv _ => (3 - intOf jv).toNat)
        case atStart => exact ⟨0, st, _, rfl, rfl, Nat.zero_le _, rfl, rfl, HBN, Below.refl _ _⟩
        case round =>
          obtain ⟨j, b, bv, rfl, rfl, hj, hb0, rfl, HBN1, HBW1⟩ := hrel
          have HBJ := Lib.hid hb0
          clear hb0
          have hzr := HBW1.out.size
          obtain ⟨d, hd⟩ : ∃ d : Int, d = 2 * (j : Int) - 1 := ⟨_, rfl⟩
          have hdb : -1 ≤ d ∧ d ≤ 3 := by omega
          have hdn : d + 2 = 2 * ((j + 1 : Nat) : Int) - 1 := by omega
          rw [← hd]
          by_cases hjl : j < 2
          · have hd1 : -1 ≤ d ∧ d ≤ 1 := by omega
            have HCS := Lib.hid (show cIn r top now st k (j + 1) = cStep r top now b k d by rw [cIn_succ, ← HBJ.out, hd])
            have HDN := Lib.hid hdn
            clear hd hdn
            have HOr := Lib.hid (owns_below (owns_below HO.out HBW.out (Nat.le_refl _)) HBW1.out (Nat.le_refl _))
            have HBr := Lib.hid ((HB.out.trans (HBW.out.mono hzo)).trans (HBW1.out.mono (by omega)))
            have HKr := Lib.hid ((HK.out.below HBW.out HK.out.lt).below HBW1.out (by omega))
            have hwz := HBr.out.size
            have HNL := Lib.hid HGN.out.1
            have hin := inB_iff.1 (HGN.out.2 k hlt)
            obtain ⟨z, hz⟩ : ∃ z, z = now.getD k 0 := ⟨_, rfl⟩
            rw [← hz] at hin
            have hzd : -1 ≤ z + d ∧ z + d ≤ 6 := by omega
            have HZ := Lib.hid hz
            clear hz
            go_wp2_with (at_builtin; refine app_own rfl _ _ rfl wr.heap.size ⟨wr.heap.size, 0, none⟩ 0 0 [] rfl (owns_empty wr) _ now rfl (Slc.below (slc_of_owns HOr.out) ((Below.refl _ _).alloc (Nat.le_refl _) _) (Nat.le_refl _)) n now (by have := HNL.out; simp; omega) (by simp) (by omega) (by simp) ?_; intro g1 cap1 w4 ho4 hbl hg6; have hc4 := owns_cell ho4 (k := k) (by rw [HNL.out]; exact hlt); rw [← HZ.out] at hc4; have hf4 := ho4.frozenAt k)
            have hb4 : Below wr.heap.size wr w4 := ((Below.refl _ _).alloc (Nat.le_refl _) _).trans hbl
            have hgl1 := (owns_lt ho4 (k := g1) (by first | rfl | (simp [Value.ownBlock])))
            obtain ⟨W1, hW1⟩ : ∃ W1, W1 = w4.setCell ⟨g1, k, none⟩ (.int .i64 (z + d)) := ⟨_, rfl⟩
            rw [← hW1]
            have HO5 := Lib.hid (show W1.ownsRow wr.heap.size 2 1 (.slice (some ⟨g1, 0, none⟩) n cap1) n ((turned now k d).map I64) by rw [hW1, HZ.out]; exact owns_turned ho4)
            have hb5 : Below wr.heap.size wr W1 := by rw [hW1]; exact hb4.setCell hgl1.1 _
            have HB5 := Lib.hid (HBr.out.trans (hb5.mono hwz))
            have HK5 := Lib.hid (HKr.out.below hb5 HKr.out.lt)
            have HBN5 := Lib.hid (HBN1.out.up hb5)
            have HBW5 := Lib.hid (HBW1.out.trans (hb5.mono hzr))
            have hz5 := hb5.size
            have HSO := Lib.hid (wok_turned HVN.out HGN.out hlt d)
            obtain ⟨qw, hqw⟩ : ∃ q, stepOk r top now k d = q := ⟨_, rfl⟩
            have HQW := Lib.hid hqw
            have HTL := Lib.hid (show (turned now k d).length = n by rw [turned_len]; exact HGN.out.1)
            clear hqw hW1 ho4 hb4 hb5 hbl hg6 hc4 hf4
            refine (l07Whole_any w.heap.size _ _ _ _ r _ (turned now k d) top W1 HK5.out (HP.out.up HB5.out (Nat.le_refl _)) (slc_of_owns HO5.out) (by rw [HVN.out]; omega)).mono ?_
            rintro e w6 ⟨rfl, hb6⟩
            rw [HSO.out, HQW.out]
            have HO6 := Lib.hid (owns_below HO5.out hb6 (Nat.le_refl _))
            have HB6 := Lib.hid (HB5.out.trans (hb6.mono HB5.out.size))
            have HK6 := Lib.hid (HK5.out.below hb6 HK5.out.lt)
            have HBN6 := Lib.hid (HBN5.out.up hb6)
            have HBW6 := Lib.hid (HBW5.out.trans (hb6.mono HBW5.out.size))
            have hz6 := hb6.size
            clear hb6
            cases qw
            · have HU2 := Lib.hid (show cIn r top now st k (j + 1) = b by rw [HCS.out]; exact cStep_no HQW.out)
              go_wp2_with fail
              go_roundw
              case rel => exact ⟨j + 1, b, _, rfl, congrArg (Value.int IntKind.i64) HDN.out, by omega, HU2.out.symm, rfl, HBN6, HBW6⟩
              case measure => simp [intOf]; omega
            have HBE := Lib.hid (show cIn r top now st k (j + 1) = better r b (turned now k d) by rw [HCS.out]; exact cStep_yes HQW.out)
            clear HCS HSO HGQ HGY
            obtain ⟨q, hq⟩ : ∃ q, gainOk r ((turned now k d).map fI) = q := ⟨_, rfl⟩
            obtain ⟨y2, hy⟩ : ∃ y, gainV r ((turned now k d).map fI) = y := ⟨_, rfl⟩
            have HGQ := Lib.hid hq
            have HGY := Lib.hid hy
            clear hq hy
            have hx8 : (turned now k d).length ≤ 8 := by have := HTL.out; omega
            have d0 : w6.cell? ⟨w.heap.size, 0, none⟩ = some (.int .i64 r.vars) := HK6.out.cell 0 rfl
            have d1 : w6.cell? ⟨w.heap.size, 1, none⟩ = some (.slice a1 r.nums.length c1) := HK6.out.cell 1 rfl
            have d2 : w6.cell? ⟨w.heap.size, 2, none⟩ = some (.slice a2 r.bnds.length c2) := HK6.out.cell 2 rfl
            have d3 : w6.cell? ⟨w.heap.size, 3, none⟩ = some (.slice a3 r.gains.length c3) := HK6.out.cell 3 rfl
            go_wp2_with fail
            go_region_held3 (fun X => X.cell? ⟨w.heap.size, 0, none⟩ = some (.int .i64 r.vars) ∧ X.cell? ⟨w.heap.size, 1, none⟩ = some (.slice a1 r.nums.length c1) ∧ X.cell? ⟨w.heap.size, 2, none⟩ = some (.slice a2 r.bnds.length c2) ∧ X.cell? ⟨w.heap.size, 3, none⟩ = some (.slice a3 r.gains.length c3) ∧ Below w6.heap.size w6 X)
              (first | exact ⟨held_of hbn d0 (Nat.le_refl _), held_of hbn d1 (Nat.le_refl _), held_of hbn d2 (Nat.le_refl _), held_of hbn d3 (Nat.le_refl _), hbn⟩ | exact ⟨d0, d1, d2, d3, (Below.refl _ _).drew⟩)
              (first
                | (go_at_call 104; have hh := (‹_ ∧ _ ∧ _ ∧ _ ∧ Below w6.heap.size w6 _›).2.2.2.2; refine (l07Floats_any _ (turned now k d) _ (Slc.below (slc_of_owns HO6.out) hh (Nat.le_refl _)) (by omega)).mono ?_; rintro e wn1 ⟨nu, rfl, hnu, hb1⟩; have hbn := hh.trans (hb1.mono hh.size))
                | (go_at_call 103; have hh := (‹_ ∧ _ ∧ _ ∧ _ ∧ Below w6.heap.size w6 _›).2.2.2.2; refine (specGain_b q y2 _ r _ ((turned now k d).map fI) _ (HP.out.up (HB6.out.trans (hh.mono HB6.out.size)) (Nat.le_refl _)) hnu HGQ.out HGY.out).mono ?_; rintro e w7 ⟨rfl, hb2⟩; have hbn := hh.trans (hb2.mono hh.size))
                | fail)
            have hb7 : Below w6.heap.size w6 w7 := hbn
            have HO7 := Lib.hid (owns_below HO6.out hb7 (Nat.le_refl _))
            have HBN7 := Lib.hid (HBN6.out.up hb7)
            have HBW7 := Lib.hid (HBW6.out.trans (hb7.mono HBW6.out.size))
            clear hbn hb7 d0 d1 d2 d3 hb1 hb2 hh hnu HO6 HB6 HK6
            cases q
            · have HU2 := Lib.hid (show cIn r top now st k (j + 1) = b by rw [HBE.out]; exact better_no HGQ.out)
              go_wp2_with fail
              go_roundw
              case rel => exact ⟨j + 1, b, _, rfl, congrArg (Value.int IntKind.i64) HDN.out, by omega, HU2.out.symm, rfl, HBN7, HBW7⟩
              case measure => simp [intOf]; omega
            cases hq : gtB y2 b.2
            · have hq' : (FloatKind.f32.format.order y2 b.2 == some .gt) = false := hq
              have HU2 := Lib.hid (show cIn r top now st k (j + 1) = b by rw [HBE.out]; exact better_less (by rw [HGY.out]; exact hq))
              clear hq
              go_wp2_with fail
              go_roundw
              case rel => exact ⟨j + 1, b, _, rfl, congrArg (Value.int IntKind.i64) HDN.out, by omega, HU2.out.symm, rfl, HBN7, HBW7⟩
              case measure => simp [intOf]; omega
            · have hq' : (FloatKind.f32.format.order y2 b.2 == some .gt) = true := hq
              have HU2 := Lib.hid (show cIn r top now st k (j + 1) = (some (turned now k d), y2) by rw [HBE.out, ← HGY.out]; exact better_more HGQ.out (by rw [HGY.out]; exact hq))
              clear hq
              have HBN8 : Hid (BS w.heap.size n (some (turned now k d)) (.slice (some ⟨g1, 0, none⟩) n cap1) w7) := Lib.hid (.inr ⟨_, g1, cap1, rfl, rfl, owns_base HO7.out hwz⟩)
              go_wp2_with fail
              go_roundw
              case rel => exact ⟨j + 1, (some (turned now k d), y2), _, rfl, congrArg (Value.int IntKind.i64) HDN.out, by omega, HU2.out.symm, rfl, HBN8, HBW7⟩
              case measure => simp [intOf]; omega
          · obtain rfl : j = 2 := by omega
            have hd3 : d = 3 := by omega
            subst hd3
            clear hd hdn
            have HE2 := Lib.hid (HST.out.trans HBJ.out.symm)
            go_wp2_with fail
            go_roundw
            case rel => exact ⟨k + 1, _, rfl, by go_num, by omega, by rw [HE2.out], by rw [HE2.out]; exact HBN1, HBW.out.trans (HBW1.out.mono hzi)⟩
            case measure => simp [intOf]; omega
      · obtain rfl : k = n := by omega
        have HBe := Lib.hid (HB.out.trans (HBW.out.mono hzo))
        have HKe := Lib.hid (HK.out.below HBW.out HK.out.lt)
        have HOe := Lib.hid (owns_below HO.out HBW.out (Nat.le_refl _))
        obtain ⟨b, hb⟩ : ∃ b, b = cUp r top now m k := ⟨_, rfl⟩
        have HUP := Lib.hid (show cUp r top now m now.length = b by rw [HGN.out.1, hb])
        have HGW := Lib.hid (show GoodW k top b by rw [hb]; exact goodW_up HGN.out k (Nat.le_refl _))
        rw [← hb] at HBN ⊢
        clear hb
        obtain ⟨bo, bm⟩ := b
        rcases HBN.out with ⟨e1, a, rfl⟩ | ⟨s, gb, capb, e1, rfl, e3⟩
        · simp only at e1
          subst e1
          have HF1 := Lib.hid (show climbL r x top = now by rw [HFL.out, HL1.out, climb_stop (by rw [HUP.out])])
          have HF2 := Lib.hid (show climbN r x top = (c : Int) by rw [HFN.out, HL2.out, climb_stop (by rw [HUP.out])]; simp)
          go_wp2_with fail
          go_ret3
          exact ⟨_, by rw [HYES.out, HF2.out]; rfl, by rw [HF1.out]; exact OwnI.mk HOe.out, HBe.out⟩
        · simp only at e1
          subst e1
          have E3 := Lib.hid e3
          clear e3
          have hk0 : ((k : Int) == 0) = false := by rw [beq_eq_false_iff_ne]; omega
          have HM := Lib.hid (climb_more (f := 1000 - (c + 1)) HUP.out)
          go_wp2_with fail
          go_roundw
          case rel =>
            refine ⟨c + 1, s, bm, gb, capb, rfl, rfl, by go_num, by omega, HGW.out s rfl, ?_, ?_, E3, HKe, HBe⟩
            · have h1 := HL1.out
              rw [show 1000 - c = (1000 - (c + 1)) + 1 by omega, HM.out] at h1
              exact h1
            · have h1 := HL2.out
              rw [show 1000 - c = (1000 - (c + 1)) + 1 by omega, HM.out] at h1
              show _ = ((c + 1 : Nat) : Int) + _
              rw [h1]; push_cast; omega
          case measure => simp [intOf]; omega

end Go.Proofs.Ytkmbkjbammpdhaa

namespace Go.Proofs.Ytkmbkjbammpdhaa
open Go.ChangeShapes Go.WideShapes Go.ChangeAt Go.RowKit
set_option linter.unusedVariables false

def WfI (zs : List Int) : Prop := ∀ z ∈ zs, -9223372036854775808 ≤ z ∧ z ≤ 9223372036854775807

section
variable {H : Type} {enc : TypeId × Value → H} {w : World} {base : Nat} {spare : Nat → Bool} {held : Bool}

theorem cells_i64 : Try.prog.cellsOf 2 = 1 := by kernel_rfl
theorem wf_i64_bounds {z : Int} (h : (Lit.int .i64 z).wf = true) : -9223372036854775808 ≤ z ∧ z ≤ 9223372036854775807 := bounds_i64 h

set_option maxRecDepth 100000 in
theorem trod_I {fuel : Nat} {cs : List Value} {x : DataW H × List MemPlace} (h : DataW.trod enc Try.prog w base spare held fuel 36 cs = some x) : ∃ v zs, cs = [v] ∧ RdI w v zs ∧ WfI zs := by
  rcases open_ints Try.underlying36 Try.underlying2 cells_i64 h with ⟨rfl, _⟩ | ⟨a, len, cap, zs, rfl, _, hl, hm, hz, _, hcell, hwz⟩
  · exact ⟨_, [], rfl, .inl ⟨rfl, rfl⟩, by intro z hz; simp at hz⟩
  · have hle : len ≤ zs.length := by rw [hz]; split <;> omega
    refine ⟨_, zs.take len, rfl, .inr ⟨a, cap, by simp [Nat.min_eq_left hle], by simp; omega, hm, ?_⟩, fun z hz' => wf_i64_bounds (hwz z (List.mem_of_mem_take hz'))⟩
    intro i u hi
    have hlt : i < len := by
      have := (List.getElem?_eq_some_iff.1 hi).1
      simp at this; omega
    have h2 := hcell i (by omega)
    rw [h2, ← hi]
    simp [I64, List.getElem?_take, hlt, show i < zs.length by omega]

set_option maxRecDepth 100000 in
theorem arg_I {r : Reach} {b0 : Nat} {v : Value} {d : DataW H} {p : List MemPlace} (hv : Value.okWide Try.prog w r b0 36 v) (h : DataW.Trod enc Try.prog w base spare held 36 v d p) : ∃ zs, RdI w v zs ∧ WfI zs := by
  obtain ⟨a, len, cap, rfl⟩ := okWide_slice Try.underlying36 hv
  obtain ⟨fuel, hf⟩ := h
  obtain ⟨v, zs, e, h1, h2⟩ := trod_I hf
  simp [Value.cells] at e
  subst e
  exact ⟨zs, h1, h2⟩
theorem cells_one {a : Addr} {cs : List Value} (h : w.cells? base a 1 = some cs) : ∃ v, cs = [v] ∧ w.cell? a = some v := by
  simp [World.cells?] at h
  obtain ⟨_, h⟩ := h
  cases hc : w.cell? (a.add 0) with
  | none => rw [hc] at h; simp at h
  | some v =>
    rw [hc] at h
    simp at h
    exact ⟨v, h.symm, by simpa [Addr.add] using hc⟩

theorem exists_list {α : Type} (P : Nat → α → Prop) : ∀ (n : Nat), (∀ i, i < n → ∃ x, P i x) → ∃ l : List α, l.length = n ∧ ∀ (i : Nat) x, l[i]? = some x → P i x
  | 0, _ => ⟨[], rfl, by intro i x h; simp at h⟩
  | n + 1, h => by
    obtain ⟨l, hl, hp⟩ := exists_list P n (fun i hi => h i (by omega))
    obtain ⟨x, hx⟩ := h n (by omega)
    refine ⟨l ++ [x], by simp [hl], fun i y hy => ?_⟩
    by_cases hi : i < n
    · rw [List.getElem?_append_left (by omega)] at hy
      exact hp i y hy
    · have : i < (l ++ [x]).length := (List.getElem?_eq_some_iff.1 hy).1
      simp [hl] at this
      obtain rfl : i = n := by omega
      rw [List.getElem?_append_right (by omega), hl] at hy
      simp at hy
      exact hy ▸ hx
end
end Go.Proofs.Ytkmbkjbammpdhaa
