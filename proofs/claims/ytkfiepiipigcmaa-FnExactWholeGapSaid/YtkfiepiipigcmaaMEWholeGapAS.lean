/-
  FnExactWholeGap: texts joined: PlanS, GapS, Plan, OpenI, OpenR.
-/
import Derived.ProofKit
import Derived.OpenShut
import Derived.Lib.SmallJoins
import Derived.Test.YtkfiepiipigcmaaMEWholeGapAA
import Derived.Test.YtkfiepiipigcmaaMEWholeGapAB
import Derived.Test.YtkfiepiipigcmaaMEWholeGapAC
import Derived.Test.YtkfiepiipigcmaaMEWholeGapAH
import Derived.Test.YtkfiepiipigcmaaMEWholeGapAN
import Derived.Test.YtkfiepiipigcmaaMEWholeGapAR
namespace Go.Proofs.Ytkfiepiipigcmaa
open Go.RowKit

noncomputable def wbUp (r : RowsD) (B n : Nat) : Nat → WB
  | 0 => (none, 0)
  | N + 1 => if wholeB r (digB B n N) = true then wbStep r (wbUp r B n N) (digB B n N) else wbUp r B n N
theorem wbUp_succ (r : RowsD) (B n N : Nat) : wbUp r B n (N + 1) = if wholeB r (digB B n N) = true then wbStep r (wbUp r B n N) (digB B n N) else wbUp r B n N := rfl
theorem wbUp_all (r : RowsD) (top n : Nat) : wbAll r (wSols r top n []) = wbUp r (top + 1) n ((top + 1) ^ n) := by
  rw [wSols_dig]
  generalize (top + 1) ^ n = K
  induction K with
  | zero => rfl
  | succ K ih =>
    rw [List.range_succ, List.flatMap_append, wbUp_succ, ← ih]
    unfold wbAll
    rw [List.foldl_append]
    by_cases h : wholeB r (digB (top + 1) n K) = true <;> simp [h]

/-- The best one so far, in a slice of its own. -/
def BS (base n : Nat) (o : Option (List Int)) (bv : Value) (w : World) : Prop :=
  (o = none ∧ ∃ a, bv = .slice a 0 0) ∨ ∃ s gb cap, o = some s ∧ bv = .slice (some ⟨gb, 0, none⟩) n cap ∧ w.ownsRow base 2 1 (.slice (some ⟨gb, 0, none⟩) n cap) n (s.map I64)
theorem BS.up {base n : Nat} {o : Option (List Int)} {bv : Value} {w w' : World} (h : BS base n o bv w) (hb : Below w.heap.size w w') : BS base n o bv w' := by
  rcases h with h | ⟨s, gb, cap, h1, h2, h3⟩
  · exact .inl h
  · exact .inr ⟨s, gb, cap, h1, h2, owns_below h3 hb (Nat.le_refl _)⟩
theorem BS.kept {base n g : Nat} {o : Option (List Int)} {bv : Value} {w w' : World} (h : BS base n o bv w) (hk : Kept (· = g) w w') (hg : g < base) : BS base n o bv w' := by
  rcases h with h | ⟨s, gb, cap, h1, h2, h3⟩
  · exact .inl h
  · refine .inr ⟨s, gb, cap, h1, h2, owns_kept h3 hk ?_⟩
    intro b hb
    have := (owns_lt h3 hb).1
    show ¬ (b = g)
    omega

theorem specGain_b (q : Bool) (y : Nat) (v : Value) (r : RowsD) (u : Value) (x : List Nat) (w : World) (h : RdR w v r) (hu : RdF w u x) (hq : gainOk r x = q) (hy : gainV r x = y) :
    Calls Try.prog 86 #[v, u] w fun e w' => e = .returned (.tuple #[.float .f32 y, .bool q]) ∧ Below w.heap.size w w' := by
  have := specGain_any v r u x w h hu
  rw [hq, hy] at this
  exact this

set_option maxHeartbeats 4000000 in
set_option maxRecDepth 4000 in
theorem l07Best_any (bb : Nat) (a1 : Option Addr) (c1 : Nat) (a2 : Option Addr) (c2 : Nat) (a3 : Option Addr) (c3 : Nat) (r : RowsD) (T : Nat) (w : World) (ht : topB r (T : Int) = true)
    (hk : Blk w bb 67 #[.int .i64 r.vars, .slice a1 r.nums.length c1, .slice a2 r.bnds.length c2, .slice a3 r.gains.length c3]) (h : RdR w (.agg #[.int .i64 r.vars, .slice a1 r.nums.length c1, .slice a2 r.bnds.length c2, .slice a3 r.gains.length c3]) r) :
    Calls Try.prog 87 #[.pointer (some ⟨bb, 0, none⟩), .int .i64 T] w fun e w' => ∃ bv, e = .returned (.tuple #[bv, .float .f32 (planY r T), .bool (planOk r T)]) ∧ BS w.heap.size r.gains.length (planB r T).1 bv w' ∧ Below w.heap.size w w' := by
  obtain ⟨i0, hi, hz0, hz1, hz2⟩ := info_parts Try.infoI64
  have HP := Lib.hid h
  have HK := Lib.hid hk
  have HQ := Lib.hid ht
  obtain ⟨hv, h4, t1, t5⟩ := topB_parts ht
  have hgl := hv.gl
  obtain ⟨n, hn⟩ : ∃ n, n = r.gains.length := ⟨_, rfl⟩
  have HN := Lib.hid (show planB r (T : Int) = wbUp r (T + 1) n ((T + 1) ^ n) by unfold planB; rw [ht, if_pos rfl, ← wbUp_all, hn]; rfl)
  have hvn : r.vars = (n : Int) := by rw [hn]; exact hgl.symm
  have HVN := Lib.hid hvn
  have HNN := Lib.hid hn
  have hn4 : n ≤ 4 := by omega
  have hn1 : 1 ≤ n := by have := hv.v1; omega
  have d0 : w.cell? ⟨bb, 0, none⟩ = some (.int .i64 n) := by have := hk.cell 0 rfl; rwa [hvn] at this
  have hbw := hk.lt
  have hpw : (T + 1) ^ n ≤ 1296 := by
    have h2 : (T + 1) ^ n ≤ 6 ^ 4 := Nat.le_trans (Nat.pow_le_pow_left (by omega) _) (Nat.pow_le_pow_right (by decide) (by omega))
    have : 6 ^ 4 = 1296 := by decide
    omega
  have hpp : 0 < (T + 1) ^ n := Nat.pow_pos (by omega)
  obtain ⟨P, hP⟩ : ∃ P, P = (T + 1) ^ n := ⟨_, rfl⟩
  rw [← hP] at hpw hpp HN
  have HPP := Lib.hid hP
  have hn0 : ((n : Int) == 0) = false := by simp; omega
  clear hgl hv hn hvn h hk ht hP
  go_enter Try.func87, Try.ntmps87
  go_wp2_with (at_make; refine wpList_make_full _ rfl _ _ 24 rfl w.heap.size 2 i0 (.int .i64 0) 1 Try.underlying24 hi hz0 hz1 .i64 .i64 n n n rfl rfl rfl rfl (by rw [hz2]; omega) (by unfold maxLen; omega) (by simp) ?_; intro w2 hown hgrow)
  have hb2 : Below w.heap.size w w2 := (Below.refl _ _).grown hgrow (by simp) (by intro k hk; cases hk)
  have hg2 := (owns_lt hown (k := w.heap.size) (by first | rfl | (simp [Value.ownBlock]))).2
  have hz : (madeCells (Value.int .i64 0).cells (n * 1)).toList = (digB (T + 1) n 0).map I64 := by
    rw [digB_zero]; simpa [Value.cells, I64] using toList_madeCells_one (Value.int .i64 0) n
  rw [hz] at hown
  refine wp_at fun W hW => ?_
  have HZ := Lib.hid (show W.ownsRow w.heap.size 2 1 (.slice (some ⟨w.heap.size, 0, none⟩) n n) n ((digB (T + 1) n 0).map I64) by subst hW; exact hown.alloc _)
  have HB2 := Lib.hid (show Below w.heap.size w W by subst hW; exact hb2.alloc hb2.size _)
  have HK2 := Lib.hid (HK.out.below HB2.out hbw)
  have hWz : w2.heap.size ≤ W.heap.size := by subst hW; simp
  clear hW hown hb2 hgrow hz d0
  obtain ⟨g, hg⟩ : ∃ g, g = w.heap.size := ⟨_, rfl⟩
  rw [← hg] at HZ hg2
  have HG := Lib.hid hg
  have hgb : bb < g := by omega
  have hgB : g < w2.heap.size := hg2
  have hwg : w.heap.size ≤ g := by omega
  rw [show (Value.slice (some ⟨w.heap.size, 0, none⟩) n n) = Value.slice (some ⟨g, 0, none⟩) n n by rw [hg]]
  clear hg
  go_loopw [8, 9, 10] (fun bv my m wr => ∃ N : Nat, ∃ bv' : Value, bv' = bv ∧ N ≤ P ∧ w2.heap.size ≤ wr.heap.size ∧ Hid (BS w2.heap.size n (wbUp r (T + 1) n N).1 bv' wr) ∧ my = .float .f32 (wbUp r (T + 1) n N).2 ∧ m = .bool (decide (N < P)) ∧ Hid (wr.ownsRow w.heap.size 2 1 (.slice (some ⟨g, 0, none⟩) n n) n ((digB (T + 1) n (N % P)).map I64)) ∧ Hid (Blk wr bb 67 #[.int .i64 r.vars, .slice a1 r.nums.length c1, .slice a2 r.bnds.length c2, .slice a3 r.gains.length c3]) ∧ Hid (Below w.heap.size w wr)) (fun _ _ m wr => match m with | .bool true => P - digAt (T + 1) g n wr | _ => 0)
  case atStart => exact ⟨0, _, rfl, Nat.zero_le _, hWz, Lib.hid (.inl ⟨rfl, _, rfl⟩), rfl, by rw [decide_eq_true hpp], by rw [Nat.zero_mod]; exact Lib.hid (owns_base HZ.out (by omega)), HK2, HB2⟩
  case round =>
    obtain ⟨N, bv, rfl, hN, hwr2, HBS1, rfl, rfl, HO1, HK1, HB1⟩ := hrel
    have hwz1 := HB1.out.size
    by_cases hlt : N < P
    · have HUP := Lib.hid (wbUp_succ r (T + 1) n N)
      rw [decide_eq_true hlt]
      have HO2 := Lib.hid (show wr.ownsRow w.heap.size 2 1 (.slice (some ⟨g, 0, none⟩) n n) n ((digB (T + 1) n N).map I64) by have := HO1.out; rwa [Nat.mod_eq_of_lt hlt] at this)
      have HNX := Lib.hid (show nextL (T : Int) (digB (T + 1) n N) = (decide (N + 1 < P), digB (T + 1) n ((N + 1) % P)) by have := next_dig T n N (by rw [← HPP.out]; exact hlt); rwa [← HPP.out] at this)
      have HAT := Lib.hid (fun i hi => digB_at (T + 1) (by omega) n N i (by rw [← HPP.out]; exact hlt) hi)
      have HXL := Lib.hid (digB_len (T + 1) n N)
      have HMU := Lib.hid (digAt_owns (by omega) HO2.out)
      obtain ⟨st, hst⟩ : ∃ st, st = wbUp r (T + 1) n N := ⟨_, rfl⟩
      rw [← hst] at HUP HBS1
      rw [← hst]
      clear hst
      obtain ⟨x, hx⟩ : ∃ x, x = digB (T + 1) n N := ⟨_, rfl⟩
      rw [← hx] at HUP HO2 HNX HAT HXL
      clear hx HO1
      obtain ⟨q, hq⟩ : ∃ q, q = wholeB r x := ⟨_, rfl⟩
      have HWQ := Lib.hid (show wokB r x T = q by
        unfold wokB
        rw [show ((x.length : Int) == r.vars) = true by rw [HXL.out, HVN.out]; simp, allB_true (fun j hj => ?_), ← hq]
        · simp
        · have hj2 := HAT.out j (by have := HXL.out; omega)
          exact inB_iff.2 ⟨hj2.1, by omega⟩)
      rw [← hq] at HUP
      clear hq
      have HEND := Lib.hid (show ∀ w4 : World, w4.ownsRow w.heap.size 2 1 (.slice (some ⟨g, 0, none⟩) n n) n ((digB (T + 1) n ((N + 1) % P)).map I64) → (match Value.bool (decide (N + 1 < P)) with | .bool true => P - digAt (T + 1) g n w4 | _ => 0) < P - N by
        intro w4 ho
        by_cases h1 : N + 1 < P
        · rw [Nat.mod_eq_of_lt h1] at ho
          rw [decide_eq_true h1]
          have := digAt_owns (by omega) ho
          simp only [this]
          omega
        · rw [decide_eq_false h1]
          simp only
          omega)
      obtain ⟨o, z⟩ := st
      simp only at HBS1
      obtain ⟨ba, bl, bc, hbv, hbl⟩ : ∃ ba bl bc, bv = .slice ba bl bc ∧ bl ≤ 4 := by
        rcases HBS1.out with ⟨_, a, h⟩ | ⟨_, _, _, _, h, _⟩
        · exact ⟨_, _, _, h, by omega⟩
        · exact ⟨_, _, _, h, hn4⟩
      subst hbv
      go_wp2_with fail
      have hsl : RdI wr (.slice (some ⟨g, 0, none⟩) n n) x := slc_of_owns HO2.out
      refine (l07Whole_any bb _ _ _ _ r _ x T wr HK1.out (HP.out.up HB1.out (Nat.le_refl _)) hsl (by rw [HVN.out]; omega)).mono ?_
      rintro e w3 ⟨rfl, hb3⟩
      rw [HWQ.out]
      have HO3 := Lib.hid (owns_below HO2.out hb3 (Nat.le_refl _))
      have HK3 := Lib.hid (HK1.out.below hb3 HK1.out.lt)
      have HB3 := Lib.hid (HB1.out.trans (hb3.mono hwz1))
      have HBS3 := Lib.hid (HBS1.out.up hb3)
      have hz13 := hb3.size
      clear hb3 hsl
      cases q
      · have HU2 := Lib.hid (show wbUp r (T + 1) n (N + 1) = (o, z) by rw [HUP.out]; rfl)
        clear HUP
        go_wp2_with fail
        refine (l07Next_any w.heap.size g n x n (T : Int) w3 HXL.out (by omega) t5 (fun i hi => (HAT.out i hi).1) HO3.out).mono ?_
        rintro e w4 ⟨rfl, ho4, hk4⟩
        rw [HNX.out] at ho4 ⊢
        have hz4 := hk4.size
        have HB4 := Lib.hid (HB3.out.trans (hk4.toBelow HB3.out.size (by rintro k h1 rfl; omega)))
        have HK4 := Lib.hid (HK3.out.kept hk4 (by show ¬ (bb = g); omega))
        have HBS4 := Lib.hid (HBS3.out.kept hk4 hgB)
        have HO4 := Lib.hid ho4
        clear ho4 hk4
        go_wp2_with fail
        go_roundw
        case rel => exact ⟨N + 1, _, rfl, hlt, by omega, by rw [HU2.out]; exact HBS4, by rw [HU2.out], rfl, HO4, HK4, HB4⟩
        case measure => simp only [HMU.out]; exact HEND.out _ HO4.out
      · have d0 : w3.cell? ⟨bb, 0, none⟩ = some (.int .i64 r.vars) := HK3.out.cell 0 rfl
        have d1 : w3.cell? ⟨bb, 1, none⟩ = some (.slice a1 r.nums.length c1) := HK3.out.cell 1 rfl
        have d2 : w3.cell? ⟨bb, 2, none⟩ = some (.slice a2 r.bnds.length c2) := HK3.out.cell 2 rfl
        have d3 : w3.cell? ⟨bb, 3, none⟩ = some (.slice a3 r.gains.length c3) := HK3.out.cell 3 rfl
        have HU1 := Lib.hid (show wbUp r (T + 1) n (N + 1) = wbStep r (o, z) x by rw [HUP.out]; rfl)
        clear HUP
        obtain ⟨q, hq⟩ : ∃ q, gainOk r (x.map fI) = q := ⟨_, rfl⟩
        obtain ⟨y, hy⟩ : ∃ y, gainV r (x.map fI) = y := ⟨_, rfl⟩
        have HGQ := Lib.hid hq
        have HGY := Lib.hid hy
        clear hq hy
        have hx8 : x.length ≤ 8 := by have := HXL.out; omega
        go_wp2_with fail
        go_region_held3 (fun X => X.cell? ⟨bb, 0, none⟩ = some (.int .i64 r.vars) ∧ X.cell? ⟨bb, 1, none⟩ = some (.slice a1 r.nums.length c1) ∧ X.cell? ⟨bb, 2, none⟩ = some (.slice a2 r.bnds.length c2) ∧ X.cell? ⟨bb, 3, none⟩ = some (.slice a3 r.gains.length c3) ∧ Below w3.heap.size w3 X)
          (first | exact ⟨held_of hbn d0 (Nat.le_refl _), held_of hbn d1 (Nat.le_refl _), held_of hbn d2 (Nat.le_refl _), held_of hbn d3 (Nat.le_refl _), hbn⟩ | exact ⟨d0, d1, d2, d3, (Below.refl _ _).drew⟩)
          (first
            | (go_at_call 114; have hh := (‹_ ∧ _ ∧ _ ∧ _ ∧ Below w3.heap.size w3 _›).2.2.2.2; refine (l07Floats_any _ x _ (Slc.below (slc_of_owns HO3.out) hh (Nat.le_refl _)) (by omega)).mono ?_; rintro e w1 ⟨nu, rfl, hnu, hb1⟩; have hbn := hh.trans (hb1.mono hh.size))
            | (go_at_call 86; have hh := (‹_ ∧ _ ∧ _ ∧ _ ∧ Below w3.heap.size w3 _›).2.2.2.2; refine (specGain_b q y _ r _ (x.map fI) _ (HP.out.up (HB3.out.trans (hh.mono HB3.out.size)) (Nat.le_refl _)) hnu HGQ.out HGY.out).mono ?_; rintro e w2' ⟨rfl, hb2⟩; have hbn := hh.trans (hb2.mono hh.size))
            | fail)
        have hb5 : Below w3.heap.size w3 w2' := hbn
        have HO5 := Lib.hid (owns_below HO3.out hb5 (Nat.le_refl _))
        have HK5 := Lib.hid (HK3.out.below hb5 HK3.out.lt)
        have HB5 := Lib.hid (HB3.out.trans (hb5.mono HB3.out.size))
        have HBS5 := Lib.hid (HBS3.out.up hb5)
        have hz5 := hb5.size
        clear hbn hb5 d0 d1 d2 d3
        cases q
        · have HU2 := Lib.hid (show wbUp r (T + 1) n (N + 1) = (o, z) by rw [HU1.out]; exact wbStep_no HGQ.out)
          go_wp2_with fail
          refine (l07Next_any w.heap.size g n x n (T : Int) w2' HXL.out (by omega) t5 (fun i hi => (HAT.out i hi).1) HO5.out).mono ?_
          rintro e w4 ⟨rfl, ho4, hk4⟩
          rw [HNX.out] at ho4 ⊢
          have hz4 := hk4.size
          have HB4 := Lib.hid (HB5.out.trans (hk4.toBelow HB5.out.size (by rintro k h1 rfl; omega)))
          have HK4 := Lib.hid (HK5.out.kept hk4 (by show ¬ (bb = g); omega))
          have HBS4 := Lib.hid (HBS5.out.kept hk4 hgB)
          have HO4 := Lib.hid ho4
          clear ho4 hk4
          go_wp2_with fail
          go_roundw
          case rel => exact ⟨N + 1, _, rfl, hlt, by omega, by rw [HU2.out]; exact HBS4, by rw [HU2.out], rfl, HO4, HK4, HB4⟩
          case measure => simp only [HMU.out]; exact HEND.out _ HO4.out
        · rcases HBS5.out with ⟨rfl, a, he⟩ | ⟨t, gb0, cap0, rfl, he, ho0⟩
          · simp only [Value.slice.injEq] at he
            obtain ⟨rfl, rfl, rfl⟩ := he
            have HU2 := Lib.hid (show wbUp r (T + 1) n (N + 1) = (some x, y) by rw [HU1.out, ← HGY.out]; exact wbStep_first HGQ.out)
            go_wp2_with (at_builtin; refine app_own rfl _ _ rfl w2'.heap.size ⟨w2'.heap.size, 0, none⟩ 0 0 [] rfl (owns_empty w2') _ x rfl (Slc.below (slc_of_owns HO5.out) ((Below.refl _ _).alloc (Nat.le_refl _) _) (Nat.le_refl _)) n x (by have := HXL.out; simp; omega) (by simp) (by omega) (by simp) ?_; intro gb cap6 w6 hown hbl hg6)
            have hb6 : Below w2'.heap.size w2' w6 := ((Below.refl _ _).alloc (Nat.le_refl _) _).trans hbl
            have hz6 := hb6.size
            have HO6 := Lib.hid (owns_below HO5.out hb6 (Nat.le_refl _))
            have HK6 := Lib.hid (HK5.out.below hb6 HK5.out.lt)
            have HB6 := Lib.hid (HB5.out.trans (hb6.mono HB5.out.size))
            have HBS6 : Hid (BS w2.heap.size n (some x) (.slice (some ⟨gb, 0, none⟩) n cap6) w6) := Lib.hid (.inr ⟨x, gb, cap6, rfl, rfl, owns_base hown (by omega)⟩)
            clear hown hbl hg6 hb6
            go_wp2_with fail
            refine (l07Next_any w.heap.size g n x n (T : Int) w6 HXL.out (by omega) t5 (fun i hi => (HAT.out i hi).1) HO6.out).mono ?_
            rintro e w4 ⟨rfl, ho4, hk4⟩
            rw [HNX.out] at ho4 ⊢
            have hz4 := hk4.size
            have HB4 := Lib.hid (HB6.out.trans (hk4.toBelow HB6.out.size (by rintro k h1 rfl; omega)))
            have HK4 := Lib.hid (HK6.out.kept hk4 (by show ¬ (bb = g); omega))
            have HBS4 := Lib.hid (HBS6.out.kept hk4 hgB)
            have HO4 := Lib.hid ho4
            clear ho4 hk4
            go_wp2_with fail
            go_roundw
            case rel => exact ⟨N + 1, _, rfl, hlt, by omega, by rw [HU2.out]; exact HBS4, by rw [HU2.out], rfl, HO4, HK4, HB4⟩
            case measure => simp only [HMU.out]; exact HEND.out _ HO4.out
          · simp only [Value.slice.injEq] at he
            obtain ⟨rfl, hbln, rfl⟩ := he
            have hbln' := hbln.symm
            subst hbln'
            clear hbln
            cases hq : gtB y z
            · have hq' : (FloatKind.f32.format.order y z == some .gt) = false := hq
              have HU2 := Lib.hid (show wbUp r (T + 1) n (N + 1) = (some t, z) by rw [HU1.out]; exact wbStep_less HGQ.out (by rw [HGY.out]; exact hq))
              clear hq ho0
              go_wp2_with fail
              refine (l07Next_any w.heap.size g n x n (T : Int) w2' HXL.out (by omega) t5 (fun i hi => (HAT.out i hi).1) HO5.out).mono ?_
              rintro e w4 ⟨rfl, ho4, hk4⟩
              rw [HNX.out] at ho4 ⊢
              have hz4 := hk4.size
              have HB4 := Lib.hid (HB5.out.trans (hk4.toBelow HB5.out.size (by rintro k h1 rfl; omega)))
              have HK4 := Lib.hid (HK5.out.kept hk4 (by show ¬ (bb = g); omega))
              have HBS4 := Lib.hid (HBS5.out.kept hk4 hgB)
              have HO4 := Lib.hid ho4
              clear ho4 hk4
              go_wp2_with fail
              go_roundw
              case rel => exact ⟨N + 1, _, rfl, hlt, by omega, by rw [HU2.out]; exact HBS4, by rw [HU2.out], rfl, HO4, HK4, HB4⟩
              case measure => simp only [HMU.out]; exact HEND.out _ HO4.out
            · have hq' : (FloatKind.f32.format.order y z == some .gt) = true := hq
              have HU2 := Lib.hid (show wbUp r (T + 1) n (N + 1) = (some x, y) by rw [HU1.out, ← HGY.out]; exact wbStep_more HGQ.out (by rw [HGY.out]; exact hq))
              clear hq ho0
              go_wp2_with (at_builtin; refine app_own rfl _ _ rfl w2'.heap.size ⟨w2'.heap.size, 0, none⟩ 0 0 [] rfl (owns_empty w2') _ x rfl (Slc.below (slc_of_owns HO5.out) ((Below.refl _ _).alloc (Nat.le_refl _) _) (Nat.le_refl _)) n x (by have := HXL.out; simp; omega) (by simp) (by omega) (by simp) ?_; intro gb cap6 w6 hown hbl hg6)
              have hb6 : Below w2'.heap.size w2' w6 := ((Below.refl _ _).alloc (Nat.le_refl _) _).trans hbl
              have hz6 := hb6.size
              have HO6 := Lib.hid (owns_below HO5.out hb6 (Nat.le_refl _))
              have HK6 := Lib.hid (HK5.out.below hb6 HK5.out.lt)
              have HB6 := Lib.hid (HB5.out.trans (hb6.mono HB5.out.size))
              have HBS6 : Hid (BS w2.heap.size n (some x) (.slice (some ⟨gb, 0, none⟩) n cap6) w6) := Lib.hid (.inr ⟨x, gb, cap6, rfl, rfl, owns_base hown (by omega)⟩)
              clear hown hbl hg6 hb6
              go_wp2_with fail
              refine (l07Next_any w.heap.size g n x n (T : Int) w6 HXL.out (by omega) t5 (fun i hi => (HAT.out i hi).1) HO6.out).mono ?_
              rintro e w4 ⟨rfl, ho4, hk4⟩
              rw [HNX.out] at ho4 ⊢
              have hz4 := hk4.size
              have HB4 := Lib.hid (HB6.out.trans (hk4.toBelow HB6.out.size (by rintro k h1 rfl; omega)))
              have HK4 := Lib.hid (HK6.out.kept hk4 (by show ¬ (bb = g); omega))
              have HBS4 := Lib.hid (HBS6.out.kept hk4 hgB)
              have HO4 := Lib.hid ho4
              clear ho4 hk4
              go_wp2_with fail
              go_roundw
              case rel => exact ⟨N + 1, _, rfl, hlt, by omega, by rw [HU2.out]; exact HBS4, by rw [HU2.out], rfl, HO4, HK4, HB4⟩
              case measure => simp only [HMU.out]; exact HEND.out _ HO4.out
    · obtain rfl : N = P := by omega
      rw [decide_eq_false hlt]
      rw [← HN.out] at HBS1 ⊢
      have HPY := Lib.hid (show planY r (T : Int) = (planB r (T : Int)).2 from rfl)
      have HPO := Lib.hid (show planOk r (T : Int) = (planB r (T : Int)).1.isSome from rfl)
      rw [← HPY.out]
      rcases HBS1.out with ⟨h1, a, rfl⟩ | ⟨s, gb, cap, h1, rfl, h3⟩
      · have H1 := Lib.hid h1
        clear h1
        go_wp2_with fail
        go_ret3
        exact ⟨_, by rw [HPO.out, H1.out]; rfl, by rw [← HNN.out]; exact .inl ⟨H1.out, _, rfl⟩, HB1.out⟩
      · have H1 := Lib.hid h1
        have H3 := Lib.hid h3
        have hp1 : 0 < n := by omega
        clear h1 h3
        go_wp2_with fail
        go_ret3
        exact ⟨_, by rw [HPO.out, H1.out]; rfl, by rw [← HNN.out]; exact .inr ⟨s, gb, cap, H1.out, rfl, owns_base H3.out (by omega)⟩, HB1.out⟩

end Go.Proofs.Ytkfiepiipigcmaa

namespace Go.Proofs.Ytkfiepiipigcmaa
open Go.RowKit

set_option maxHeartbeats 4000000 in
set_option maxRecDepth 8000 in
theorem gapS_any (v : Value) (r : RowsD) (top most : Int) (near : Nat) (w : World) (h : RdR w v r) :
    Calls Try.prog 45 #[v, .int .i64 top, .int .i64 most, .float .f32 near] w (GapPost (gapOk r top most near) (gapV r top most near) w.heap.size w) := by
  obtain ⟨a1, c1, a2, c2, a3, c3, rfl⟩ := h.shape
  have HSV := Lib.hid (fun X (hb : Below w.heap.size w X) => solveRowsS_any _ r most near X (h.up hb (Nat.le_refl _)))
  have HGV := Lib.hid (fun X (hb : Below w.heap.size w X) u x (hu : RdF X u x) => specGain_any _ r u x X (h.up hb (Nat.le_refl _)) hu)
  have HRV := Lib.hid (fun bb X hk (hb : Below w.heap.size w X) => l07Rows_any bb (.int .i64 r.vars) (.slice a1 r.nums.length c1) (.slice a2 r.bnds.length c2) (.slice a3 r.gains.length c3) r top X hk (h.up hb (Nat.le_refl _)))
  have HGN := Lib.hid (@gap_none r top most near)
  have HGS := Lib.hid (fun s h => @gap_some r top most near s h)
  have HDF := Lib.hid (gapO_eq r top most near)
  have HRD := Lib.hid h
  clear h
  obtain ⟨tb, htb⟩ : ∃ tb, topB r top = tb := ⟨_, rfl⟩
  have HTB := Lib.hid htb
  rw [htb] at HRV
  obtain ⟨gk, hgk⟩ : ∃ gk, gk = gapOk r top most near := ⟨_, rfl⟩
  obtain ⟨gv, hgv⟩ : ∃ gv, gv = gapV r top most near := ⟨_, rfl⟩
  obtain ⟨go, hgo⟩ : ∃ gv, gv = gapO r top most near := ⟨_, rfl⟩
  rw [← hgk, ← hgv, ← hgo] at HGN HGS
  rw [← hgk, ← hgv]
  rw [← hgo] at HDF
  have HNO := Lib.hid (show go = none → ∀ Wf, Below w.heap.size w Wf → GapPost gk gv w.heap.size w (.returned (.tuple #[.float .f32 0, .bool false])) Wf from fun h Wf hb => by
    obtain ⟨h1, h2⟩ := HGN.out h
    rw [h1, h2]
    exact ⟨rfl, hb⟩)
  have HYES := Lib.hid (show ∀ s, go = some s → ∀ Wf, Below w.heap.size w Wf → GapPost gk gv w.heap.size w (.returned (.tuple #[.float .f32 s, .bool true])) Wf from fun s h Wf hb => by
    obtain ⟨h1, h2⟩ := HGS.out s h
    rw [h1, h2]
    exact ⟨rfl, hb⟩)
  clear HGN HGS htb hgk hgv hgo
  go_enter Try.func45, Try.ntmps45
  go_upto_region 1 with fail
  refine wp_at fun W0 hW0 => ?_
  have HB0 := Lib.hid (show Below w.heap.size w W0 by subst hW0; (repeat' first | exact Below.refl _ _ | assumption | refine Below.alloc ?_ ?_ _ | refine Below.setCell ?_ ?_ _ | refine Below.drew ?_ | (simp; done) | (simp; omega)))
  have HK0 := Lib.hid (show Blk W0 w.heap.size 67 #[.int .i64 r.vars, .slice a1 r.nums.length c1, .slice a2 r.bnds.length c2, .slice a3 r.gains.length c3] by subst hW0; exact Blk.new _ _ _)
  have hz0 := HB0.out.size
  clear hW0
  cases tb
  · have HPO := Lib.hid (show go = none by
      have e : planOk r top = false := by unfold planOk planB; rw [HTB.out]; rfl
      rw [HDF.out, e]
      cases solvO r most near with
      | none => rfl
      | some t => simp)
    go_wp2_with (go_at_call 84; refine (HRV.out _ W0 HK0.out HB0.out).mono ?_; rintro e w1 ⟨rfl, m1, rfl⟩)
    go_ret2
    exact HNO.out HPO.out _ (below_drewN HB0.out _)
  · go_upto_region 3 with (go_at_call 84; refine (HRV.out _ W0 HK0.out HB0.out).mono ?_; rintro e w1 ⟨rfl, m1, rfl⟩)
    refine wp_at fun W1 hW1 => ?_
    have HB1 := Lib.hid (show Below w.heap.size w W1 by subst hW1; exact below_drewN HB0.out _)
    have HK1 := Lib.hid (show Blk W1 w.heap.size 67 #[.int .i64 r.vars, .slice a1 r.nums.length c1, .slice a2 r.bnds.length c2, .slice a3 r.gains.length c3] by subst hW1; exact HK0.out)
    have hz1 := HB1.out.size
    have hk1 := HK1.out.lt
    clear hW1
    obtain ⟨hv, h4, t1, t5⟩ := topB_parts HTB.out
    obtain ⟨T, rfl⟩ := Int.eq_ofNat_of_zero_le (by omega : 0 ≤ top)
    have HBV := Lib.hid (fun X hk (hb : Below w.heap.size w X) => l07Best_any w.heap.size a1 c1 a2 c2 a3 c3 r T X HTB.out hk (HRD.out.up hb (Nat.le_refl _)))
    obtain ⟨py, hpy⟩ : ∃ py, py = planY r (T : Int) := ⟨_, rfl⟩
    obtain ⟨po, hpo⟩ : ∃ py, py = planOk r (T : Int) := ⟨_, rfl⟩
    obtain ⟨o, ho⟩ : ∃ o, o = solvO r most near := ⟨_, rfl⟩
    rw [← hpy, ← hpo, ← ho] at HDF
    rw [← hpy, ← hpo] at HBV
    unfold SrsPost at HSV
    rw [← ho] at HSV
    clear hpy hpo ho hv h4 t1 t5
    have d0 := HK1.out.cell 0 rfl
    have d1 := HK1.out.cell 1 rfl
    have d2 := HK1.out.cell 2 rfl
    have d3 := HK1.out.cell 3 rfl
    go_upto_region 4 with (go_at_call 85; refine (HSV.out W1 HB1.out).mono ?_; rintro e w2 ⟨va, vb, rfl, hyes, hb2⟩; have HB2 := Lib.hid (HB1.out.trans (hb2.mono hz1)); have HK2 := Lib.hid (HK1.out.below hb2 hk1))
    have hz2 := HB2.out.size
    have hk2 := HK2.out.lt
    clear d0 d1 d2 d3
    cases o with
    | none =>
      go_wp2_with fail
      go_ret2
      exact HNO.out (by rw [HDF.out]) _ HB2.out
    | some t =>
      obtain ⟨hva, hvb⟩ := hyes t rfl
      have HG := Lib.hid (HGV.out w2 HB2.out va _ hva)
      unfold NumPost at HG
      obtain ⟨x, hx⟩ : ∃ x, x = gainV r (planT t) := ⟨_, rfl⟩
      obtain ⟨g, hg⟩ : ∃ x, x = gainOk r (planT t) := ⟨_, rfl⟩
      simp only at HDF
      rw [← hx, ← hg] at HG HDF
      have HD := Lib.hid (show go = if (g && po) = true then (if finO (Ieee.single.sub x py) = true then Ieee.single.sub x py else none) else none from HDF.out)
      clear HDF hx hg hyes hva hvb HSV hb2
      have d0 := HK2.out.cell 0 rfl
      have d1 := HK2.out.cell 1 rfl
      have d2 := HK2.out.cell 2 rfl
      have d3 := HK2.out.cell 3 rfl
      go_upto_region 7 with (go_at_call 86; refine HG.out.mono ?_; rintro e w3 ⟨rfl, hb3⟩; have HB3 := Lib.hid (HB2.out.trans (hb3.mono hz2)); have HK3 := Lib.hid (HK2.out.below hb3 hk2))
      have hz3 := HB3.out.size
      clear d0 d1 d2 d3
      go_upto_region 8 with (go_at_call 87; refine (HBV.out w3 HK3.out HB3.out).mono ?_; rintro e w4 ⟨bv, rfl, _, hb4⟩; have HB4 := Lib.hid (HB3.out.trans (hb4.mono hz3)))
      cases g
      · go_wp2_with fail
        go_ret2
        exact HNO.out (by rw [HD.out]; rfl) _ HB4.out
      · cases po
        · go_wp2_with fail
          go_ret2
          exact HNO.out (by rw [HD.out]; rfl) _ HB4.out
        · by_cases hf : finO (Ieee.single.sub x py) = true
          · obtain ⟨s, hs⟩ : ∃ s, Ieee.single.sub x py = some s := by
              cases h : Ieee.single.sub x py with
              | some s => exact ⟨s, rfl⟩
              | none => rw [h] at hf; cases hf
            have hfs : fin32 s = true := by rw [hs] at hf; exact hf
            have HS := Lib.hid (show go = some s by rw [HD.out, Bool.and_self, if_pos rfl, if_pos hf, hs])
            have hsub := fun (W : World) => run_sub_some (P := Try.prog) 63 x py s hs W
            have HF := Lib.hid hfs
            clear hf hs hfs HD
            go_wp2_with (go_at_call 88; refine (l02Number_any s _).mono ?_; rintro e w5 ⟨rfl, m5, rfl⟩; rw [HF.out, if_pos rfl])
            go_ret2
            exact HYES.out s HS.out _ (below_drewN HB4.out _)
          · rw [Bool.not_eq_true] at hf
            have HS := Lib.hid (show go = none by rw [HD.out, Bool.and_self, if_pos rfl, hf]; rfl)
            have hsub := fun (W : World) => run_sub_all (P := Try.prog) 63 x py W
            have HF := Lib.hid (fun W => show fin32 (subV x py W) = false by rw [(mt_sub x py W).fin]; exact hf)
            clear hf HD
            go_wp2_with (go_at_call 88; refine (l02Number_any _ _).mono ?_; rintro e w5 ⟨rfl, m5, rfl⟩; rw [HF.out, if_neg Bool.false_ne_true])
            go_ret2
            exact HNO.out HS.out _ (by first | exact below_drewN HB4.out _ | (rw [World.drewN_drewN]; exact below_drewN HB4.out _) | exact below_drewN (below_drewN HB4.out _) _)

end Go.Proofs.Ytkfiepiipigcmaa

namespace Go.Proofs.Ytkfiepiipigcmaa
open Go.RowKit

theorem nan_zero : nan32 0 = false := by decide +kernel
theorem gainV_nan (r : RowsD) (x : List Nat) (h : gainOk r x = true) : nan32 (gainV r x) = false := by
  have h2 : fin32 (gainV r x) = true := by
    unfold gainV
    rw [if_pos h]
    unfold gainOk at h
    simp only [Bool.and_eq_true] at h
    cases hg : gainO r x with
    | none => rw [hg] at h; cases h.2
    | some g => rw [hg] at h; exact h.2
  cases hn : nan32 (gainV r x) with
  | false => rfl
  | true => rw [fin_of_nan hn] at h2; cases h2
theorem wbStep_nan {r : RowsD} {b : WB} {s : List Int} (h0 : nan32 b.2 = false) : nan32 (wbStep r b s).2 = false := by
  unfold wbStep
  split
  · next h =>
    simp only [Bool.and_eq_true] at h
    exact gainV_nan r _ h.1
  · exact h0
theorem planY_nan (r : RowsD) (top : Int) : nan32 (planY r top) = false := by
  unfold planY planB
  split
  · suffices H : ∀ (l : List (List Int)) (b : WB), nan32 b.2 = false → nan32 (l.foldl (wbStep r) b).2 = false from H _ (none, 0) nan_zero
    intro l
    induction l with
    | nil => intro b h; exact h
    | cons s l ih => intro b h; exact ih _ (wbStep_nan h)
  · exact nan_zero

theorem sameFloat_b (r : Nat) (h : (Ieee.double.read r).isNaN = false) (w : World) :
    Calls Try.prog 48 #[.float .f64 r, .float .f64 r] w fun e w' => e = .returned (.bool true) ∧ Below w.heap.size w w' := by
  refine (sameFloat_self r h w).mono ?_
  rintro e w' ⟨rfl, rfl⟩
  exact ⟨rfl, Below.refl _ _⟩

end Go.Proofs.Ytkfiepiipigcmaa

namespace Go.Proofs.Ytkfiepiipigcmaa
open Go.ChangeShapes Go.WideShapes Go.ChangeAt Go.RowKit
set_option linter.unusedVariables false

def WfI (zs : List Int) : Prop := ∀ z ∈ zs, -9223372036854775808 ≤ z ∧ z ≤ 9223372036854775807

section
variable {H : Type} {enc : TypeId × Value → H} {w : World} {base : Nat} {spare : Nat → Bool} {held : Bool}

theorem cells_i64 : Try.prog.cellsOf 2 = 1 := by kernel_rfl
theorem wf_i64_bounds {z : Int} (h : (Lit.int .i64 z).wf = true) : -9223372036854775808 ≤ z ∧ z ≤ 9223372036854775807 := bounds_i64 h

set_option maxRecDepth 100000 in
theorem trod_I {fuel : Nat} {cs : List Value} {x : DataW H × List MemPlace} (h : DataW.trod enc Try.prog w base spare held fuel 24 cs = some x) : ∃ v zs, cs = [v] ∧ RdI w v zs ∧ WfI zs := by
  rcases open_ints Try.underlying24 Try.underlying2 cells_i64 h with ⟨rfl, _⟩ | ⟨a, len, cap, zs, rfl, _, hl, hm, hz, _, hcell, hwz⟩
  · exact ⟨_, [], rfl, .inl ⟨rfl, rfl⟩, by intro z hz; simp at hz⟩
  · have hle : len ≤ zs.length := by rw [hz]; split <;> omega
    refine ⟨_, zs.take len, rfl, .inr ⟨a, cap, by simp [Nat.min_eq_left hle], by simp; omega, hm, ?_⟩, fun z hz' => wf_i64_bounds (hwz z (List.mem_of_mem_take hz'))⟩
    intro i u hi
    have hlt : i < len := by
      have := (List.getElem?_eq_some_iff.1 hi).1
      simp at this; omega
    have h2 := hcell i (by omega)
    rw [h2, ← hi]
    simp [I64, List.getElem?_take, hlt, show i < zs.length by omega]

set_option maxRecDepth 100000 in
theorem arg_I {r : Reach} {b0 : Nat} {v : Value} {d : DataW H} {p : List MemPlace} (hv : Value.okWide Try.prog w r b0 24 v) (h : DataW.Trod enc Try.prog w base spare held 24 v d p) : ∃ zs, RdI w v zs ∧ WfI zs := by
  obtain ⟨a, len, cap, rfl⟩ := okWide_slice Try.underlying24 hv
  obtain ⟨fuel, hf⟩ := h
  obtain ⟨v, zs, e, h1, h2⟩ := trod_I hf
  simp [Value.cells] at e
  subst e
  exact ⟨zs, h1, h2⟩
theorem cells_one {a : Addr} {cs : List Value} (h : w.cells? base a 1 = some cs) : ∃ v, cs = [v] ∧ w.cell? a = some v := by
  simp [World.cells?] at h
  obtain ⟨_, h⟩ := h
  cases hc : w.cell? (a.add 0) with
  | none => rw [hc] at h; simp at h
  | some v =>
    rw [hc] at h
    simp at h
    exact ⟨v, h.symm, by simpa [Addr.add] using hc⟩

theorem exists_list {α : Type} (P : Nat → α → Prop) : ∀ (n : Nat), (∀ i, i < n → ∃ x, P i x) → ∃ l : List α, l.length = n ∧ ∀ (i : Nat) x, l[i]? = some x → P i x
  | 0, _ => ⟨[], rfl, by intro i x h; simp at h⟩
  | n + 1, h => by
    obtain ⟨l, hl, hp⟩ := exists_list P n (fun i hi => h i (by omega))
    obtain ⟨x, hx⟩ := h n (by omega)
    refine ⟨l ++ [x], by simp [hl], fun i y hy => ?_⟩
    by_cases hi : i < n
    · rw [List.getElem?_append_left (by omega)] at hy
      exact hp i y hy
    · have : i < (l ++ [x]).length := (List.getElem?_eq_some_iff.1 hy).1
      simp [hl] at this
      obtain rfl : i = n := by omega
      rw [List.getElem?_append_right (by omega), hl] at hy
      simp at hy
      exact hy ▸ hx
end
end Go.Proofs.Ytkfiepiipigcmaa

namespace Go.Proofs.Ytkfiepiipigcmaa
open Go.ChangeShapes Go.WideShapes Go.ChangeAt Go.RowKit
set_option linter.unusedVariables false

def WfF (zs : List Nat) : Prop := True
def WfR (r : RowsD) : Prop := True

section
variable {H : Type} {enc : TypeId × Value → H} {w : World} {base : Nat} {spare : Nat → Bool} {held : Bool}

theorem cells_f32 : Try.prog.cellsOf 63 = 1 := by kernel_rfl
theorem cells_floats : Try.prog.cellsOf 60 = 1 := by kernel_rfl
theorem cells_i64' : Try.prog.cellsOf 2 = 1 := by kernel_rfl
theorem cells_rows : Try.prog.cellsOf 62 = 4 := by kernel_rfl

set_option maxRecDepth 100000 in
theorem trod_f32 {n : Nat} {cs : List Value} {x : DataW H × List MemPlace} (h : DataW.trod enc Try.prog w base spare held n 63 cs = some x) : ∃ b, cs = [.float .f32 b] := by
  cases n with
  | zero => simp [DataW.trod] at h
  | succ n =>
    simp only [DataW.trod, Try.underlying63] at h
    revert h
    repeat' split
    all_goals first | (intro h; cases h; done) | skip
    all_goals first | (intro _; exact ⟨_, rfl⟩) | skip
    all_goals (intro h; simp_all)

set_option maxRecDepth 100000 in
theorem trod_F {fuel : Nat} {cs : List Value} {x : DataW H × List MemPlace} (h : DataW.trod enc Try.prog w base spare held fuel 60 cs = some x) : ∃ v zs, cs = [v] ∧ RdF w v zs ∧ WfF zs := by
  rcases DataW.trod_slice Try.underlying60 h with ⟨rfl, _⟩ | ⟨a, len, cap, elems, rest, n, _, rfl, _, hb, hl, hm, hlen, hel, _, _⟩
  · exact ⟨_, [], rfl, .inl ⟨rfl, rfl⟩, trivial⟩
  · rw [cells_f32] at hel
    have hex : ∀ i, i < len → ∃ q : Nat, w.cell? (a.add i) = some (.float .f32 q) := by
      intro i hi
      have h1 := hel i hi
      rw [List.getElem?_eq_getElem (by omega)] at h1
      cases hc : w.cells? base (a.add (i * 1)) 1 with
      | none => rw [hc] at h1; simp at h1
      | some cs' =>
        rw [hc] at h1
        simp only [Option.bind_some] at h1
        obtain ⟨u, rfl, hu⟩ := cells_one hc
        obtain ⟨b, e⟩ := trod_f32 h1
        simp at e
        subst e
        exact ⟨b, by simpa using hu⟩
    obtain ⟨l, hll, hlp⟩ := exists_list _ len hex
    refine ⟨_, l, rfl, .inr ⟨a, cap, by simp [hll], by simp [hll]; omega, hm, ?_⟩, trivial⟩
    intro i u hi
    simp only [List.getElem?_map, Option.map_eq_some_iff] at hi
    obtain ⟨q, hq, rfl⟩ := hi
    exact hlp i q hq

set_option maxRecDepth 100000 in
theorem arg_F {r : Reach} {b0 : Nat} {v : Value} {d : DataW H} {p : List MemPlace} (hv : Value.okWide Try.prog w r b0 60 v) (h : DataW.Trod enc Try.prog w base spare held 60 v d p) : ∃ zs, RdF w v zs ∧ WfF zs := by
  obtain ⟨a, len, cap, rfl⟩ := okWide_slice Try.underlying60 hv
  obtain ⟨fuel, hf⟩ := h
  obtain ⟨v, zs, e, h1, h2⟩ := trod_F hf
  simp [Value.cells] at e
  subst e
  exact ⟨zs, h1, h2⟩

set_option maxRecDepth 100000 in
theorem trod_i64 {n : Nat} {cs : List Value} {x : DataW H × List MemPlace} (h : DataW.trod enc Try.prog w base spare held n 2 cs = some x) : ∃ z, cs = [.int .i64 z] := by
  cases n with
  | zero => simp [DataW.trod] at h
  | succ n =>
    simp only [DataW.trod, Try.underlying2] at h
    revert h
    repeat' split
    all_goals first | (intro h; cases h; done) | skip
    all_goals first | (intro _; exact ⟨_, rfl⟩) | skip
    all_goals (intro h; simp_all)

set_option maxRecDepth 100000 in
theorem arg_R {r : Reach} {b0 : Nat} {v : Value} {d : DataW H} {p : List MemPlace} (hv : Value.okWide Try.prog w r b0 62 v) (h : DataW.Trod enc Try.prog w base spare held 62 v d p) : ∃ t, RdR w v t ∧ WfR t := by
  obtain ⟨cs, rfl, hsz⟩ := okWide_struct Try.underlying62 hv
  obtain ⟨fuel, hf⟩ := h
  obtain ⟨y0, y1, y2, y3, n, _, hl, h0, h1, h2, h3⟩ := Go.Joins.trod_struct4 Try.underlying62 hf
  rw [cells_rows] at hl
  simp only [Value.cells] at hl h0 h1 h2 h3
  obtain ⟨l⟩ := cs
  match l, hl with
  | [a, b, c, e], _ =>
    rw [cells_floats] at h1 h2 h3
    rw [cells_i64'] at h0
    obtain ⟨z, e0⟩ := trod_i64 h0
    obtain ⟨vb, p, e1, r1, _⟩ := trod_F (w := w) h1
    obtain ⟨vc, q, e2, r2, _⟩ := trod_F (w := w) h2
    obtain ⟨vd, s, e3, r3, _⟩ := trod_F (w := w) h3
    simp at e0 e1 e2 e3
    subst e0 e1 e2 e3
    exact ⟨⟨z, p, q, s⟩, ⟨_, _, _, rfl, r1, r2, r3⟩, trivial⟩
end
end Go.Proofs.Ytkfiepiipigcmaa
