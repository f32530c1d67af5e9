/-
  FnExactWholesShared: texts joined: WholeC, Has, ChoiceM, FirstInv, PredL, Dom, AllIn, Rising, DomO, Marks, EachC, Choices.
-/
import Derived.Deep.OwnRows
import Derived.Test.YtkmbkjbammpdhaaMEWholesSharedAA
import Derived.Test.YtkmbkjbammpdhaaMEWholesSharedAB
import Derived.Test.YtkmbkjbammpdhaaMEWholesSharedAD
import Derived.Test.YtkmbkjbammpdhaaMEWholesSharedAG
namespace Go.Proofs.Ytkmbkjbammpdhaa
open Go.RowKit

theorem Try.entersWC (args : Array Value) (w : World) : (callFunc 98 args).run Try.prog w = .ok (.enter 98 args) w :=
  enters_of Try.func98 (by kernel_rfl) rfl args w

theorem countW1_any (v : Value) (cb k : Nat) (w : World) (hk : k ≤ 16777216) (hbox : Box w cb 2 (.int .i64 k)) :
    Calls Try.prog 98 #[v, .pointer (some ⟨cb, 0, none⟩)] w fun e w' => e = .returned (.tuple #[]) ∧ w' = w.setCell ⟨cb, 0, none⟩ (.int .i64 (k + 1 : Nat)) := by
  have hc := hbox.cell
  have hf := hbox.free
  go_enter Try.func98, Try.ntmps98
  go_wp2
  go_end0
  exact ⟨rfl, rfl⟩

noncomputable def wSolsT (r : RowsD) (top : Int) : List (List Int) := wSols r top.toNat r.gains.length []
noncomputable def wcN (r : RowsD) (top : Int) : Int := if topB r top = true then ((wSolsT r top).length : Int) else 0
theorem wSolsT_len {r : RowsD} {top : Int} (h : topB r top = true) : (wSolsT r top).length ≤ 1296 := by
  obtain ⟨hv, h4, t1, t5⟩ := topB_parts h
  have hgl := hv.gl
  have h1 := wSols_len r top.toNat r.gains.length []
  have h2 : (top.toNat + 1) ^ r.gains.length ≤ 6 ^ 4 := Nat.le_trans (Nat.pow_le_pow_left (by omega) _) (Nat.pow_le_pow_right (by decide) (by omega))
  have : 6 ^ 4 = 1296 := by decide
  unfold wSolsT
  omega

set_option maxHeartbeats 2000000 in
set_option maxRecDepth 4000 in
theorem implWC_any (v : Value) (r : RowsD) (top : Int) (w : World) (h : RdR w v r) :
    Calls Try.prog 23 #[v, .int .i64 top] w fun e w' => e = .returned (.tuple #[.int .i64 (wcN r top), .bool (topB r top)]) ∧ Below w.heap.size w w' := by
  obtain ⟨a1, c1, a2, c2, a3, c3, rfl⟩ := h.shape
  have HP := Lib.hid h
  clear h
  obtain ⟨q, hq⟩ : ∃ q, topB r top = q := ⟨_, rfl⟩
  have HQ := Lib.hid hq
  rw [hq]
  clear hq
  go_enter Try.func23, Try.ntmps23
  go_wp2_with fail
  refine Calls.at fun W hW => ?_
  have hb := Lib.hid (show Below w.heap.size w W by subst hW; (repeat' first | exact Below.refl _ _ | assumption | refine Below.alloc ?_ ?_ _ | refine Below.setCell ?_ ?_ _ | refine Below.drew ?_ | (simp; done) | (simp; omega)))
  have hk := Lib.hid (show Blk W w.heap.size 26 #[.int .i64 r.vars, .slice a1 r.nums.length c1, .slice a2 r.bnds.length c2, .slice a3 r.gains.length c3] by subst hW; exact Blk.new _ _ _)
  clear hW
  refine (isTop_any _ r top W (HP.out.up hb.out (Nat.le_refl _))).mono ?_
  rintro e w1 ⟨rfl, hb1⟩
  rw [HQ.out]
  have HB1 := Lib.hid (hb.out.trans (hb1.mono hb.out.size))
  have HK1 := Lib.hid (hk.out.below hb1 hk.out.lt)
  have d0 : w1.cell? ⟨w.heap.size, 0, none⟩ = some (.int .i64 r.vars) := HK1.out.cell 0 rfl
  have d1 : w1.cell? ⟨w.heap.size, 1, none⟩ = some (.slice a1 r.nums.length c1) := HK1.out.cell 1 rfl
  have d2 : w1.cell? ⟨w.heap.size, 2, none⟩ = some (.slice a2 r.bnds.length c2) := HK1.out.cell 2 rfl
  have d3 : w1.cell? ⟨w.heap.size, 3, none⟩ = some (.slice a3 r.gains.length c3) := HK1.out.cell 3 rfl
  have hsz := HB1.out.size
  have hkl := HK1.out.lt
  clear hb1 hb hk
  cases q
  · have HN := Lib.hid (show wcN r top = 0 by unfold wcN; rw [HQ.out]; rfl)
    go_wp2_with fail
    go_ret2
    exact ⟨by rw [HN.out]; rfl, HB1.out⟩
  · obtain ⟨hv, h4, t1, t5⟩ := topB_parts HQ.out
    have hgl := hv.gl
    have HLEN := Lib.hid (wSolsT_len HQ.out)
    obtain ⟨T, rfl⟩ := Int.eq_ofNat_of_zero_le (by omega : 0 ≤ top)
    have HN := Lib.hid (show wcN r (T : Int) = ((wSols r T r.gains.length []).length : Int) by unfold wcN; rw [HQ.out, if_pos rfl]; rfl)
    have HL2 := Lib.hid (show (wSols r T r.gains.length []).length ≤ 1296 from HLEN.out)
    have HGL := Lib.hid hgl
    clear hgl hv
    go_wp2_with fail
    refine Calls.at fun W2 hW2 => ?_
    have hb2 := Lib.hid (show Below w.heap.size w W2 by subst hW2; exact HB1.out.alloc hsz _)
    have hbx := Lib.hid (show Box W2 w1.heap.size 2 (.int .i64 0) by subst hW2; exact Box.new w1 2 (.int .i64 0))
    have hz2 : W2.heap.size = w1.heap.size + 1 := by subst hW2; simp
    clear hW2 d0 d1 d2 d3
    refine (eachWhole_any r _ T r.gains.length HGL.out.symm (by have := HGL.out; omega) (by omega) 98 Try.entersWC #[.pointer (some ⟨w1.heap.size, 0, none⟩)] (w1.heap.size + 1) (· = w1.heap.size) (by omega)
      (fun done w' => Box w' w1.heap.size 2 (.int .i64 (done.length : Int)) ∧ w1.heap.size < w'.heap.size ∧ Below w1.heap.size W2 w') W2 ?_ ?_ ?_ r.gains.length none 0 [] W2 [] 0 rfl (by simp) (by omega) (World.ownsRow_nil _ _ _ _) (Kept.refl _ _) ?_ (by have := HL2.out; simp; omega)).mono ?_
    · intro X hX
      exact HP.out.up (hb2.out.trans (hX.toBelow (B := w.heap.size) hb2.out.size (by intro k h1 h2; omega))) (Nat.le_refl _)
    · rintro done wa wb ⟨hb, hlt, hbl⟩ h12
      exact ⟨hb.below h12 hlt, by have := h12.size; omega, hbl.trans (h12.mono (by omega))⟩
    · rintro done s a cap m wa _ _ _ hlen _ ⟨hb, hlt, hbl⟩
      refine (countW1_any _ _ _ wa hlen hb).mono ?_
      rintro e wb ⟨rfl, rfl⟩
      refine ⟨rfl, ⟨?_, by simpa using hlt, hbl.setCell (Nat.le_refl _) _⟩, Kept.setCell (S := (· = w1.heap.size)) (Kept.refl _ _) (.inr rfl) _⟩
      have := hb.set (.int .i64 ((done.length + 1 : Nat) : Int))
      simpa using this
    · exact ⟨hbx.out, by omega, Below.refl _ _⟩
    · rintro e wa ⟨rfl, ⟨hb, hlt, hbl⟩, hk⟩
      simp only [List.nil_append] at hb
      have hc := hb.cell
      have HB := Lib.hid (hb2.out.trans (hbl.mono hsz))
      clear hbl hb hk
      go_wp2_with fail
      go_ret2
      exact ⟨by rw [HN.out]; rfl, HB.out⟩

/-- How many of the first are whole plans. -/
noncomputable def wcUp (r : RowsD) (B n N : Nat) : Nat := ((List.range N).filter fun m => wholeB r (digB B n m)).length
theorem wcUp_zero (r : RowsD) (B n : Nat) : wcUp r B n 0 = 0 := rfl
theorem wcUp_le (r : RowsD) (B n N : Nat) : wcUp r B n N ≤ N := by unfold wcUp; simpa using List.length_filter_le (fun m => wholeB r (digB B n m)) (List.range N)
theorem wcUp_succ (r : RowsD) (B n N : Nat) : wcUp r B n (N + 1) = wcUp r B n N + if wholeB r (digB B n N) = true then 1 else 0 := by
  unfold wcUp
  rw [List.range_succ, List.filter_append, List.length_append]
  by_cases h : wholeB r (digB B n N) = true <;> simp [h]
theorem wcUp_all (r : RowsD) (top n : Nat) : (wSols r top n []).length = wcUp r (top + 1) n ((top + 1) ^ n) := by
  rw [wSols_dig]
  unfold wcUp
  generalize (top + 1) ^ n = K
  induction K with
  | zero => rfl
  | succ K ih =>
    rw [List.range_succ, List.flatMap_append, List.filter_append, List.length_append, List.length_append, ih]
    congr 1
    by_cases h : wholeB r (digB (top + 1) n K) = true <;> simp [h]
theorem digB_at (B : Nat) (hB : 0 < B) : ∀ (n N i : Nat), N < B ^ n → i < n → 0 ≤ (digB B n N).getD i 0 ∧ (digB B n N).getD i 0 < (B : Int)
  | 0, N, i, _, h => by omega
  | n + 1, N, 0, hN, _ => by
    rw [Nat.pow_succ] at hN
    have : N / B ^ n < B := Nat.div_lt_of_lt_mul hN
    simp only [digB, List.getD_cons_zero]
    exact ⟨Int.natCast_nonneg _, by exact_mod_cast this⟩
  | n + 1, N, i + 1, hN, h => by
    simp only [digB, List.getD_cons_succ]
    exact digB_at B hB n _ i (Nat.mod_lt _ (Nat.pow_pos hB)) (by omega)

/-- What number the digits tell. -/
def digV (B : Nat) : List Int → Nat
  | [] => 0
  | d :: xs => d.toNat * B ^ xs.length + digV B xs
theorem digV_dig (B : Nat) : ∀ (n N : Nat), digV B (digB B n N) = if n = 0 then 0 else N
  | 0, N => rfl
  | n + 1, N => by
    simp only [digB, digV, digB_len, Int.toNat_natCast]
    rw [digV_dig B n]
    by_cases h : n = 0
    · subst h; simp
    · rw [if_neg h, if_neg (by omega), Nat.mul_comm]
      exact Nat.div_add_mod _ _
noncomputable def digAt (B g n : Nat) (w : World) : Nat := digV B ((List.range n).map fun i => intOf ((w.cell? ⟨g, i, none⟩).getD (.int .i64 0)))
theorem digAt_owns {base g n cap B N : Nat} {w : World} (h0 : n ≠ 0) (h : w.ownsRow base 2 1 (.slice (some ⟨g, 0, none⟩) n cap) n ((digB B n N).map I64)) : digAt B g n w = N := by
  unfold digAt
  rw [show ((List.range n).map fun i => intOf ((w.cell? ⟨g, i, none⟩).getD (.int .i64 0))) = digB B n N from ?_, digV_dig, if_neg h0]
  refine List.ext_getElem? fun i => ?_
  by_cases hi : i < n
  · have := h.cellAt i (by omega)
    rw [List.getElem?_map] at this
    obtain ⟨d, hd⟩ : ∃ d, (digB B n N)[i]? = some d := ⟨_, List.getElem?_eq_getElem (by rw [digB_len]; exact hi)⟩
    rw [hd] at this
    simp [hi, hd, this, I64, intOf]
  · rw [List.getElem?_eq_none (by simp; omega), List.getElem?_eq_none (by rw [digB_len]; omega)]

set_option maxHeartbeats 2000000 in
set_option maxRecDepth 4000 in
theorem specWC_any (v : Value) (r : RowsD) (top : Int) (w : World) (h : RdR w v r) :
    Calls Try.prog 22 #[v, .int .i64 top] w fun e w' => e = .returned (.tuple #[.int .i64 (wcN r top), .bool (topB r top)]) ∧ Below w.heap.size w w' := by
  obtain ⟨i0, hi, hz0, hz1, hz2⟩ := info_parts Try.infoI64
  obtain ⟨a1, c1, a2, c2, a3, c3, rfl⟩ := h.shape
  have HP := Lib.hid h
  clear h
  obtain ⟨q, hq⟩ : ∃ q, topB r top = q := ⟨_, rfl⟩
  have HQ := Lib.hid hq
  rw [hq]
  clear hq
  go_enter Try.func22, Try.ntmps22
  go_wp2_with fail
  refine Calls.at fun W hW => ?_
  have hb := Lib.hid (show Below w.heap.size w W by subst hW; (repeat' first | exact Below.refl _ _ | assumption | refine Below.alloc ?_ ?_ _ | refine Below.setCell ?_ ?_ _ | refine Below.drew ?_ | (simp; done) | (simp; omega)))
  have hk := Lib.hid (show Blk W w.heap.size 26 #[.int .i64 r.vars, .slice a1 r.nums.length c1, .slice a2 r.bnds.length c2, .slice a3 r.gains.length c3] by subst hW; exact Blk.new _ _ _)
  clear hW
  refine (l07Rows_any w.heap.size _ _ _ _ r top W hk.out (HP.out.up hb.out (Nat.le_refl _))).mono ?_
  rintro e w1 ⟨rfl, m1, rfl⟩
  rw [HQ.out]
  cases q
  · have HN := Lib.hid (show wcN r top = 0 by unfold wcN; rw [HQ.out]; rfl)
    go_wp2_with fail
    go_ret2
    exact ⟨by rw [HN.out]; rfl, below_drewN hb.out _⟩
  · obtain ⟨hv, h4, t1, t5⟩ := topB_parts HQ.out
    have hgl := hv.gl
    obtain ⟨T, rfl⟩ := Int.eq_ofNat_of_zero_le (by omega : 0 ≤ top)
    obtain ⟨n, hn⟩ : ∃ n, n = r.gains.length := ⟨_, rfl⟩
    have HN := Lib.hid (show wcN r (T : Int) = (wcUp r (T + 1) n ((T + 1) ^ n) : Int) by unfold wcN; rw [HQ.out, if_pos rfl, ← wcUp_all, hn]; rfl)
    have hvn : r.vars = (n : Int) := by rw [hn]; exact hgl.symm
    have HVN := Lib.hid hvn
    have hn4 : n ≤ 4 := by omega
    have hn1 : 1 ≤ n := by have := hv.v1; omega
    have d0 : W.cell? ⟨w.heap.size, 0, none⟩ = some (.int .i64 n) := by have := hk.out.cell 0 rfl; rwa [hvn] at this
    have hszW := hk.out.lt
    have hbz := hb.out.size
    have hpw : (T + 1) ^ n ≤ 1296 := by
      have h2 : (T + 1) ^ n ≤ 6 ^ 4 := Nat.le_trans (Nat.pow_le_pow_left (by omega) _) (Nat.pow_le_pow_right (by decide) (by omega))
      have : 6 ^ 4 = 1296 := by decide
      omega
    have hpp : 0 < (T + 1) ^ n := Nat.pow_pos (by omega)
    clear hgl hv hn hvn
    go_wp2_with (at_make; refine wpList_make_full _ rfl _ _ 36 rfl (w.heap.size + 1) 2 i0 (.int .i64 0) 1 Try.underlying36 hi hz0 hz1 .i64 .i64 n n n rfl rfl rfl rfl (by rw [hz2]; omega) (by unfold maxLen; omega) (by simp; omega) ?_; intro w2 hown hgrow)
    have hb2 : Below w.heap.size w w2 := (below_drewN hb.out m1).grown hgrow (by simp; omega) (by intro k hk; cases hk)
    have hk2 : Blk w2 w.heap.size 26 #[.int .i64 r.vars, .slice a1 r.nums.length c1, .slice a2 r.bnds.length c2, .slice a3 r.gains.length c3] := (hgrow.block w.heap.size hszW (by intro h; cases h)).trans hk.out
    have hz : (madeCells (Value.int .i64 0).cells (n * 1)).toList = (digB (T + 1) n 0).map I64 := by
      rw [digB_zero]; simpa [Value.cells, I64] using toList_madeCells_one (Value.int .i64 0) n
    rw [hz] at hown
    have HZ := Lib.hid hown
    have HK2 := Lib.hid hk2
    have HB2 := Lib.hid hb2
    have HKW := Lib.hid hk.out
    clear hown hk2 hb2 hgrow hk hb hz d0 hszW hbz
    obtain ⟨P, hP⟩ : ∃ P, P = (T + 1) ^ n := ⟨_, rfl⟩
    rw [← hP] at hpw hpp HN
    have HPP := Lib.hid hP
    clear hP
    obtain ⟨g, hg⟩ : ∃ g, g = W.heap.size := ⟨_, rfl⟩
    have hgw := HB2.out.size
    have hgt : w.heap.size < g := by have := HKW.out.lt; omega
    rw [show (W.drewN m1).heap.size = W.heap.size from rfl, ← hg] at HZ
    rw [← hg]
    clear hg HKW
    go_wp2_with fail
    go_loopw [7, 8] (fun c m wr => ∃ N : Nat, N ≤ P ∧ c = .int .i64 (wcUp r (T + 1) n N) ∧ m = .bool (decide (N < P)) ∧ Hid (wr.ownsRow (w.heap.size + 1) 2 1 (.slice (some ⟨g, 0, none⟩) n n) n ((digB (T + 1) n (N % P)).map I64)) ∧ Hid (Blk wr w.heap.size 26 #[.int .i64 r.vars, .slice a1 r.nums.length c1, .slice a2 r.bnds.length c2, .slice a3 r.gains.length c3]) ∧ Hid (Below w.heap.size w wr)) (fun c m wr => match m with | .bool true => P - digAt (T + 1) g n wr | _ => 0)
    case atStart => exact ⟨0, Nat.zero_le _, by rw [wcUp_zero]; rfl, by rw [decide_eq_true hpp], by rw [Nat.zero_mod]; exact HZ, HK2, HB2⟩
    case round =>
      obtain ⟨N, hN, rfl, rfl, HO1, HK1, HB1⟩ := hrel
      by_cases hlt : N < P
      · have hwl := wcUp_le r (T + 1) n N
        have HUP := Lib.hid (wcUp_succ r (T + 1) n N)
        rw [decide_eq_true hlt]
        have HO2 := Lib.hid (show wr.ownsRow (w.heap.size + 1) 2 1 (.slice (some ⟨g, 0, none⟩) n n) n ((digB (T + 1) n N).map I64) by have := HO1.out; rwa [Nat.mod_eq_of_lt hlt] at this)
        have HNX := Lib.hid (show nextL (T : Int) (digB (T + 1) n N) = (decide (N + 1 < P), digB (T + 1) n ((N + 1) % P)) by have := next_dig T n N (by rw [← HPP.out]; exact hlt); rwa [← HPP.out] at this)
        have HAT := Lib.hid (fun i hi => digB_at (T + 1) (by omega) n N i (by rw [← HPP.out]; exact hlt) hi)
        have HXL := Lib.hid (digB_len (T + 1) n N)
        obtain ⟨cc, hcc⟩ : ∃ cc, cc = wcUp r (T + 1) n N := ⟨_, rfl⟩
        rw [← hcc] at HUP hwl
        rw [← hcc]
        clear hcc
        have HMU := Lib.hid (digAt_owns (by omega) HO2.out)
        obtain ⟨x, hx⟩ : ∃ x, x = digB (T + 1) n N := ⟨_, rfl⟩
        rw [← hx] at HUP HO2 HNX HAT HXL
        clear hx HO1
        obtain ⟨q, hq⟩ : ∃ q, q = wholeB r x := ⟨_, rfl⟩
        have HWQ := Lib.hid (show wokB r x T = q by
          unfold wokB
          rw [show ((x.length : Int) == r.vars) = true by rw [HXL.out, HVN.out]; simp, allB_true (fun j hj => ?_), ← hq]
          · simp
          · have hj2 := HAT.out j (by have := HXL.out; omega)
            exact inB_iff.2 ⟨hj2.1, by omega⟩)
        rw [← hq] at HUP
        clear hq
        go_wp2_with fail
        have hsl : RdI wr (.slice (some ⟨g, 0, none⟩) n n) x := slc_of_owns HO2.out
        refine (l07Whole_any w.heap.size _ _ _ _ r _ x T wr HK1.out (HP.out.up HB1.out (Nat.le_refl _)) hsl (by rw [HVN.out]; omega)).mono ?_
        rintro e w3 ⟨rfl, hb3⟩
        rw [HWQ.out]
        have hz3 := HB1.out.size
        have HO3 := Lib.hid (owns_below HO2.out hb3 (Nat.le_refl _))
        have HK3 := Lib.hid (HK1.out.below hb3 HK1.out.lt)
        have HB3 := Lib.hid (HB1.out.trans (hb3.mono hz3))
        clear hb3 hsl
        have HNC := Lib.hid (l07Next_any (w.heap.size + 1) g n x n (T : Int) w3 HXL.out (by omega) t5 (fun i hi => (HAT.out i hi).1) HO3.out)
        have HEND := Lib.hid (show ∀ w4 : World, w4.ownsRow (w.heap.size + 1) 2 1 (.slice (some ⟨g, 0, none⟩) n n) n ((digB (T + 1) n ((N + 1) % P)).map I64) → (match Value.bool (decide (N + 1 < P)) with | .bool true => P - digAt (T + 1) g n w4 | _ => 0) < P - N by
          intro w4 ho
          by_cases h1 : N + 1 < P
          · rw [Nat.mod_eq_of_lt h1] at ho
            rw [decide_eq_true h1]
            have := digAt_owns (by omega) ho
            simp only [this]
            omega
          · rw [decide_eq_false h1]
            simp only
            omega)
        cases q
        · go_wp2_with fail
          refine HNC.out.mono ?_
          rintro e w4 ⟨rfl, ho4, hk4⟩
          rw [HNX.out] at ho4 ⊢
          have HB4 := Lib.hid (HB3.out.trans (hk4.toBelow HB3.out.size (by rintro k h1 rfl; omega)))
          have HK4 := Lib.hid (HK3.out.kept hk4 (by show ¬ (w.heap.size = g); omega))
          have HO4 := Lib.hid ho4
          clear ho4 hk4
          go_wp2_with fail
          go_roundw
          case rel => exact ⟨N + 1, hlt, by rw [HUP.out]; rfl, rfl, HO4, HK4, HB4⟩
          case measure => simp only [HMU.out]; exact HEND.out _ HO4.out
        · have hcc : cc + 1 ≤ 1296 := by omega
          go_wp2_with fail
          refine HNC.out.mono ?_
          rintro e w4 ⟨rfl, ho4, hk4⟩
          rw [HNX.out] at ho4 ⊢
          have HB4 := Lib.hid (HB3.out.trans (hk4.toBelow HB3.out.size (by rintro k h1 rfl; omega)))
          have HK4 := Lib.hid (HK3.out.kept hk4 (by show ¬ (w.heap.size = g); omega))
          have HO4 := Lib.hid ho4
          clear ho4 hk4
          go_wp2_with fail
          go_roundw
          case rel => exact ⟨N + 1, hlt, by rw [HUP.out]; rfl, rfl, HO4, HK4, HB4⟩
          case measure => simp only [HMU.out]; exact HEND.out _ HO4.out
      · obtain rfl : N = P := by omega
        rw [decide_eq_false hlt]
        go_wp2_with fail
        go_ret2
        exact ⟨by rw [HN.out]; rfl, HB1.out⟩

end Go.Proofs.Ytkmbkjbammpdhaa

namespace Go.Proofs.Ytkmbkjbammpdhaa
open Go.RowKit

def hasB (l : List Int) (x : Int) : Bool := l.contains x
theorem hasB_yes {l : List Int} {x : Int} {j : Nat} (hj : j < l.length) (h : l.getD j 0 = x) : hasB l x = true := by
  unfold hasB; rw [List.contains_iff_mem]
  have : l.getD j 0 = l[j] := by simp [hj]
  rw [this] at h; rw [← h]; exact List.getElem_mem hj
theorem hasB_no {l : List Int} {x : Int} (h : ∀ j, j < l.length → l.getD j 0 ≠ x) : hasB l x = false := by
  unfold hasB; rw [Bool.eq_false_iff]; intro hc
  rw [List.contains_iff_mem] at hc
  obtain ⟨j, hj, e⟩ := List.getElem_of_mem hc
  exact h j hj (by simp [hj, e])

set_option maxHeartbeats 400000 in
theorem has_any (v : Value) (l : List Int) (x : Int) (w : World) (h : RdI w v l) :
    Calls Try.prog 201 #[v, .int .i64 x] w fun e w' => e = .returned (.bool (hasB l x)) ∧ w = w' := by
  obtain ⟨a, c, rfl⟩ := h.shape
  have hl := h.len
  unfold maxLen at hl
  have HS := Lib.hid h
  clear h
  go_enter Try.func201, Try.ntmps201
  go_wp2_with fail
  go_loop [9] (fun i => ∃ k : Nat, i = .int .i64 k ∧ k ≤ l.length ∧ Hid (∀ j, j < k → l.getD j 0 ≠ x)) (fun i => l.length - (intOf i).toNat)
  case atStart => exact ⟨0, rfl, Nat.zero_le _, fun j hj => by omega⟩
  case round =>
    obtain ⟨k, rfl, hk, hno⟩ := hrel
    by_cases hlt : k < l.length
    · obtain ⟨b, off, rfl, _, hc⟩ := HS.out.at hlt
      obtain ⟨y, hy⟩ : ∃ y, y = l.getD k 0 := ⟨_, rfl⟩
      rw [← hy] at hc
      by_cases he : y = x
      · have he' : (y == x) = true := by simp [he]
        have HY := Lib.hid (show hasB l x = true from hasB_yes hlt (hy.symm.trans he))
        clear he hy
        go_wp2_with fail
        go_ret
        exact ⟨by rw [HY.out]; rfl, rfl⟩
      · have he' : (y == x) = false := by simp [he]
        have HE := Lib.hid (show l.getD k 0 ≠ x by rw [← hy]; exact he)
        clear he hy
        go_wp2_with fail
        go_round
        case rel => exact ⟨k + 1, by go_num, by omega, fun j hj => by
          rcases Nat.lt_succ_iff_lt_or_eq.1 hj with h | rfl
          · exact hno.out j h
          · exact HE.out⟩
        case measure => simp [intOf]; omega
    · obtain rfl : k = l.length := by omega
      go_wp2_with fail
      go_ret
      exact ⟨by rw [hasB_no hno.out]; rfl, rfl⟩

end Go.Proofs.Ytkmbkjbammpdhaa

namespace Go.Proofs.Ytkmbkjbammpdhaa

/-- All ways to go on from now by f numbers more. -/
def choi (D : List (List Int)) : Nat → List Int → List (List Int)
  | 0, now => [now]
  | f + 1, now => (D.getD now.length []).flatMap fun n => if now.contains n then [] else choi D f (now ++ [n])
/-- Those that go on with one of the first c numbers. -/
def cPart (D : List (List Int)) (f : Nat) (now : List Int) (c : Nat) : List (List Int) :=
  ((D.getD now.length []).take c).flatMap fun n => if now.contains n then [] else choi D f (now ++ [n])
theorem choi_succ (D : List (List Int)) (f : Nat) (now : List Int) : choi D (f + 1) now = cPart D f now (D.getD now.length []).length := by
  simp only [choi, cPart, List.take_length]
theorem cPart_zero (D : List (List Int)) (f : Nat) (now : List Int) : cPart D f now 0 = [] := by simp [cPart]
theorem cPart_succ (D : List (List Int)) (f : Nat) (now : List Int) (c : Nat) (h : c < (D.getD now.length []).length) :
    cPart D f now (c + 1) = cPart D f now c ++ if now.contains ((D.getD now.length []).getD c 0) then [] else choi D f (now ++ [(D.getD now.length []).getD c 0]) := by
  simp only [cPart]
  rw [List.take_add_one, List.flatMap_append]
  congr 1
  have e : (D.getD now.length [])[c]? = some ((D.getD now.length []).getD c 0) := by
    generalize D.getD now.length [] = d at h ⊢
    simp [h]
  rw [e]
  simp
theorem cPart_pre (D : List (List Int)) (f : Nat) (now : List Int) (c : Nat) : ∀ d, c + d ≤ (D.getD now.length []).length → ∃ m, cPart D f now (c + d) = cPart D f now c ++ m
  | 0, _ => ⟨[], by simp⟩
  | d + 1, h => by
    obtain ⟨m, hm⟩ := cPart_pre D f now c d (by omega)
    rw [← Nat.add_assoc, cPart_succ D f now (c + d) (by omega), hm, List.append_assoc]
    exact ⟨_, rfl⟩
theorem flatMap_le {α β : Type} (l : List α) (F : α → List β) (M : Nat) (h : ∀ a ∈ l, (F a).length ≤ M) : (l.flatMap F).length ≤ l.length * M := by
  induction l with
  | nil => simp
  | cons a l ih =>
    rw [List.flatMap_cons, List.length_append, List.length_cons, Nat.succ_mul]
    have h1 := h a (by simp)
    have h2 := ih fun b hb => h b (by simp [hb])
    omega
theorem choi_len (D : List (List Int)) (hD : ∀ d ∈ D, d.length ≤ 8) : ∀ (f : Nat) (now : List Int), (choi D f now).length ≤ 8 ^ f
  | 0, now => by simp [choi]
  | f + 1, now => by
    have hl : (D.getD now.length []).length ≤ 8 := by
      by_cases h : now.length < D.length
      · have : D.getD now.length [] = D[now.length] := by simp [h]
        rw [this]; exact hD _ (List.getElem_mem h)
      · simp [List.getElem?_eq_none (by omega : D.length ≤ now.length)]
    have := flatMap_le (D.getD now.length []) (fun n => if now.contains n then [] else choi D f (now ++ [n])) (8 ^ f) (fun n _ => by
      split
      · simp
      · exact choi_len D hD f _)
    simp only [choi]
    refine Nat.le_trans this ?_
    rw [Nat.pow_succ, Nat.mul_comm]
    exact Nat.mul_le_mul_left _ hl
theorem choi_mem (D : List (List Int)) : ∀ (f : Nat) (now s : List Int), s ∈ choi D f now → s.length = now.length + f
  | 0, now, s, h => by simp [choi] at h; subst h; rfl
  | f + 1, now, s, h => by
    simp only [choi, List.mem_flatMap] at h
    obtain ⟨n, _, h⟩ := h
    split at h
    · simp at h
    · have := choi_mem D f _ s h
      simp at this
      omega

end Go.Proofs.Ytkmbkjbammpdhaa

namespace Go.Proofs.Ytkmbkjbammpdhaa
open Go.RowKit

/-- The variable first: empty as long as nothing is found, then an own copy of what was found first. -/
def FirstInv (B0 : Nat) (w : World) (fv : Value) (acc : List (List Int)) : Prop :=
  (acc = [] ∧ ∃ a cap, fv = .slice a 0 cap) ∨
  ∃ s r g cap, acc = s :: r ∧ s ≠ [] ∧ fv = .slice (some ⟨g, 0, none⟩) s.length cap ∧ w.ownsRow B0 2 1 fv s.length (s.map I64)

theorem FirstInv.kept {B0 : Nat} {w w' : World} {fv : Value} {acc : List (List Int)} {b : Nat} (h : FirstInv B0 w fv acc) (hk : Kept (· = b) w w') (hb : Box w b 36 fv) : FirstInv B0 w' fv acc := by
  rcases h with h | ⟨s, r, g, cap, h1, h2, h3, h4⟩
  · exact .inl h
  · refine .inr ⟨s, r, g, cap, h1, h2, h3, owns_kept h4 hk ?_⟩
    intro k hk2 e
    subst e
    exact hb.not_owned h4 (by decide) hk2

theorem FirstInv.slice {B0 : Nat} {w : World} {fv : Value} {acc : List (List Int)} (h : FirstInv B0 w fv acc) : ∃ a n cap, fv = .slice a n cap := by
  rcases h with ⟨_, a, cap, h⟩ | ⟨s, r, g, cap, _, _, h, _⟩
  · exact ⟨_, _, _, h⟩
  · exact ⟨_, _, _, h⟩

/-- Integers that are read lie beside a variable that holds a slice. -/
theorem ints_beside {w w' : World} {a : Option Addr} {n cap : Nat} {xs : List Int} {b : Nat} {fv : Value} {t : TypeId} (h : Slc w (.slice a n cap) (xs.map I64)) (hb : Box w b t fv) (hf : ∃ a n cap, fv = .slice a n cap) (hk : Kept (· = b) w w') :
    Slc w' (.slice a n cap) (xs.map I64) := by
  refine h.kept hk fun ad u hu hc e => ?_
  have := hb.cell_eq e hc
  obtain ⟨a, n, cap, rfl⟩ := hf
  simp at hu
  obtain ⟨x, _, rfl⟩ := hu
  cases this

theorem FirstInv.keptS {B0 : Nat} {S : Nat → Prop} {w w' : World} {fv : Value} {acc : List (List Int)} {b : Nat} (h : FirstInv B0 w fv acc) (hk : Kept S w w') (hS : ∀ g, B0 ≤ g → S g → g = b) (hb : Box w b 36 fv) : FirstInv B0 w' fv acc := by
  rcases h with h | ⟨s, r, g, cap, h1, h2, h3, h4⟩
  · exact .inl h
  · refine .inr ⟨s, r, g, cap, h1, h2, h3, owns_kept h4 hk ?_⟩
    intro k hk2 e
    have hk3 := hS k (owns_lt h4 hk2).1 e
    subst hk3
    exact hb.not_owned h4 (by decide) hk2

/-- The variable of the closure. -/
def FQ (B0 fb : Nat) (done : List (List Int)) (w : World) : Prop :=
  (done = [] ∧ Box w fb 36 (.slice none 0 0)) ∨
  ∃ s r g cap, done = s :: r ∧ Box w fb 36 (.slice (some ⟨g, 0, none⟩) s.length cap) ∧ w.ownsRow B0 2 1 (.slice (some ⟨g, 0, none⟩) s.length cap) s.length (s.map I64)

theorem FQ.up {B0 fb : Nat} {done : List (List Int)} {w w' : World} (h : FQ B0 fb done w) (hb : Below w.heap.size w w') : FQ B0 fb done w' := by
  rcases h with ⟨h1, h2⟩ | ⟨s, r, g, cap, h1, h2, h3⟩
  · exact .inl ⟨h1, h2.below hb h2.lt⟩
  · exact .inr ⟨s, r, g, cap, h1, h2.below hb h2.lt, owns_below h3 hb (Nat.le_refl _)⟩


end Go.Proofs.Ytkmbkjbammpdhaa

namespace Go.Proofs.Ytkmbkjbammpdhaa
open Go.RowKit

/-- Each of the values reads as the list at its place. -/
def Each (w : World) (vs : List Value) (zss : List (List Int)) : Prop := vs.length = zss.length ∧ ∀ (i : Nat) u zs, vs[i]? = some u → zss[i]? = some zs → RdI w u zs
def RdL (w : World) (v : Value) (zss : List (List Int)) : Prop := ∃ vs, Slc w v vs ∧ Each w vs zss
/-- Owned: the outer row, and the inner ones, each in a block of its own. -/
def OwnEach (lo hi : Nat) (w : World) (vs : List Value) (zss : List (List Int)) : Prop :=
  vs.length = zss.length ∧ (∀ (i : Nat) u zs, vs[i]? = some u → zss[i]? = some zs → OwnI lo hi w u zs) ∧ ∀ (i j : Nat) u u' g, i ≠ j → vs[i]? = some u → vs[j]? = some u' → u.ownBlock = some g → u'.ownBlock ≠ some g
def OwnL (lo hi : Nat) (w : World) (v : Value) (zss : List (List Int)) : Prop :=
  ∃ vs, w.ownsRow lo 36 1 v zss.length vs ∧ (∀ g, v.ownBlock = some g → g < hi) ∧ OwnEach lo hi w vs zss
def lsum : List (List Int) → Nat
  | [] => 0
  | z :: r => z.length + lsum r
theorem lsum_append : ∀ (a b : List (List Int)), lsum (a ++ b) = lsum a + lsum b
  | [], b => by simp [lsum]
  | z :: r, b => by simp only [List.cons_append, lsum, lsum_append r b]; omega
def bulkL (zss : List (List Int)) : Nat := zss.length + lsum zss

theorem RdL.shape {w : World} {v : Value} {zss : List (List Int)} (h : RdL w v zss) : ∃ a c, v = .slice a zss.length c := by
  obtain ⟨vs, h1, h2⟩ := h
  obtain ⟨a, c, e⟩ := h1.shape
  exact ⟨a, c, by rw [e, h2.1]⟩
theorem RdL.len {w : World} {v : Value} {zss : List (List Int)} (h : RdL w v zss) : zss.length ≤ maxLen := by
  obtain ⟨vs, h1, h2⟩ := h
  rw [← h2.1]; exact h1.len
theorem Each.up {w w' : World} {vs : List Value} {zss : List (List Int)} {B : Nat} (h : Each w vs zss) (hb : Below B w w') (hB : w.heap.size ≤ B) : Each w' vs zss :=
  ⟨h.1, fun i u zs h1 h2 => (h.2 i u zs h1 h2).up hb hB⟩
theorem RdL.up {w w' : World} {v : Value} {zss : List (List Int)} {B : Nat} (h : RdL w v zss) (hb : Below B w w') (hB : w.heap.size ≤ B) : RdL w' v zss := by
  obtain ⟨vs, h1, h2⟩ := h
  exact ⟨vs, h1.below hb hB, h2.up hb hB⟩
/-- One of the lists. -/
theorem RdL.at {w : World} {a : Option Addr} {n c : Nat} {zss : List (List Int)} (h : RdL w (.slice a n c) zss) {i : Nat} (hi : i < zss.length) :
    ∃ b off u, a = some ⟨b, off, none⟩ ∧ b < w.heap.size ∧ w.cell? ⟨b, off + i, none⟩ = some u ∧ RdI w u (zss.getD i []) := by
  obtain ⟨vs, h1, h2⟩ := h
  have hv : i < vs.length := by rw [h2.1]; exact hi
  obtain ⟨b, off, ha, hb, hc⟩ := h1.at (List.getElem?_eq_getElem hv)
  exact ⟨b, off, vs[i], ha, hb, hc, h2.2 i _ _ (List.getElem?_eq_getElem hv) (by simp [hi])⟩

theorem OwnEach.each {lo hi : Nat} {w : World} {vs : List Value} {zss : List (List Int)} (h : OwnEach lo hi w vs zss) : Each w vs zss := ⟨h.1, fun i u zs h1 h2 => (h.2.1 i u zs h1 h2).rd⟩
theorem OwnL.rd {lo hi : Nat} {w : World} {v : Value} {zss : List (List Int)} (h : OwnL lo hi w v zss) : RdL w v zss := by
  obtain ⟨vs, h1, h2, h3⟩ := h
  exact ⟨vs, slc_of_owns h1, h3.each⟩
theorem OwnEach.up {lo hi : Nat} {w w' : World} {vs : List Value} {zss : List (List Int)} {B : Nat} (h : OwnEach lo hi w vs zss) (hb : Below B w w') (hB : w.heap.size ≤ B) : OwnEach lo hi w' vs zss :=
  ⟨h.1, fun i u zs h1 h2 => (h.2.1 i u zs h1 h2).up hb hB, h.2.2⟩
theorem OwnL.up {lo hi : Nat} {w w' : World} {v : Value} {zss : List (List Int)} {B : Nat} (h : OwnL lo hi w v zss) (hb : Below B w w') (hB : w.heap.size ≤ B) : OwnL lo hi w' v zss := by
  obtain ⟨vs, h1, h2, h3⟩ := h
  exact ⟨vs, owns_below h1 hb hB, h2, h3.up hb hB⟩
theorem OwnEach.wide {lo hi lo' hi' : Nat} {w : World} {vs : List Value} {zss : List (List Int)} (h : OwnEach lo hi w vs zss) (a : lo' ≤ lo) (b : hi ≤ hi') : OwnEach lo' hi' w vs zss :=
  ⟨h.1, fun i u zs h1 h2 => (h.2.1 i u zs h1 h2).wide a b, h.2.2⟩
theorem OwnL.wide {lo hi lo' hi' : Nat} {w : World} {v : Value} {zss : List (List Int)} (h : OwnL lo hi w v zss) (a : lo' ≤ lo) (b : hi ≤ hi') : OwnL lo' hi' w v zss := by
  obtain ⟨vs, h1, h2, h3⟩ := h
  exact ⟨vs, owns_base h1 a, fun g hg => Nat.lt_of_lt_of_le (h2 g hg) b, h3.wide a b⟩
theorem OwnL.kept {lo hi : Nat} {w w' : World} {v : Value} {zss : List (List Int)} {S : Nat → Prop} (h : OwnL lo hi w v zss) (hk : Kept S w w') (hs : ∀ b, lo ≤ b → b < hi → ¬ S b) : OwnL lo hi w' v zss := by
  obtain ⟨vs, h1, h2, h3⟩ := h
  exact ⟨vs, owns_kept h1 hk fun g hg => hs g (owns_lt h1 hg).1 (h2 g hg), h2, h3.1, fun i u zs a b => (h3.2.1 i u zs a b).kept hk hs, h3.2.2⟩

theorem sum_take_succ (zss : List (List Int)) (k : Nat) (hk : k < zss.length) : lsum (zss.take (k + 1)) = lsum (zss.take k) + (zss.getD k []).length := by
  rw [List.take_succ_eq_append_getElem hk, lsum_append]
  simp [hk, lsum]

theorem bulkL_le (zss : List (List Int)) (k : Nat) : lsum (zss.take k) + zss.length ≤ bulkL zss := by
  unfold bulkL
  have : lsum (zss.take k) + lsum (zss.drop k) = lsum zss := by rw [← lsum_append, List.take_append_drop]
  omega

theorem Try.infoInts : (Try.prog.info? 36).map (fun i => (i.zero, i.size, i.bytes)) = some (some (.slice none 0 0), 1, 24) := by kernel_rfl

end Go.Proofs.Ytkmbkjbammpdhaa

namespace Go.Proofs.Ytkmbkjbammpdhaa
open Go.RowKit

def ValDom (d : List Int) : Prop := 1 ≤ d.length ∧ d.length ≤ 8 ∧ ∀ k, k < d.length → inB 0 31 (d.getD k 0) = true ∧ (0 < k → d.getD (k - 1) 0 < d.getD k 0)
def ValD (zss : List (List Int)) : Prop := 1 ≤ zss.length ∧ zss.length ≤ 6 ∧ ∀ i, i < zss.length → ValDom (zss.getD i [])
open Classical in
noncomputable def validD (zss : List (List Int)) : Bool := decide (ValD zss)
theorem validD_true {zss : List (List Int)} (h : ValD zss) : validD zss = true := by simp [validD, h]
theorem validD_false {zss : List (List Int)} (h : ¬ ValD zss) : validD zss = false := by simp [validD, h]

end Go.Proofs.Ytkmbkjbammpdhaa

namespace Go.Proofs.Ytkmbkjbammpdhaa
open Go.RowKit

def allIn (lo hi : Int) (xs : List Int) : Bool := xs.all (inB lo hi)

theorem allIn_true {lo hi : Int} {xs : List Int} (h : ∀ i, i < xs.length → inB lo hi (xs.getD i 0) = true) : allIn lo hi xs = true := by
  unfold allIn
  rw [List.all_eq_true]
  intro x hx
  obtain ⟨i, hi, rfl⟩ := List.mem_iff_getElem.1 hx
  have := h i hi
  simpa [hi] using this
theorem allIn_false {lo hi : Int} {xs : List Int} {i : Nat} (hlt : i < xs.length) (h : inB lo hi (xs.getD i 0) = false) : allIn lo hi xs = false := by
  unfold allIn
  rw [List.all_eq_false]
  exact ⟨xs[i], List.getElem_mem hlt, by simpa [hlt] using h⟩

set_option maxHeartbeats 400000 in
theorem allWithin_any (v : Value) (xs : List Int) (lo hi : Int) (w : World) (h : RdI w v xs) :
    Calls Try.prog 106 #[v, .int .i64 lo, .int .i64 hi] w fun e w' => e = .returned (.bool (allIn lo hi xs)) ∧ w = w' := by
  obtain ⟨a, c, rfl⟩ := h.shape
  have hl := h.len
  unfold maxLen at hl
  have HS := Lib.hid h
  clear h
  go_enter Try.func106, Try.ntmps106
  go_wp2_with fail
  go_loop [11] (fun i => ∃ k : Nat, i = .int .i64 k ∧ k ≤ xs.length ∧ Hid (∀ i, i < k → inB lo hi (xs.getD i 0) = true)) (fun i => xs.length - (intOf i).toNat)
  case atStart => exact ⟨0, rfl, Nat.zero_le _, fun i hi => by omega⟩
  case round =>
    obtain ⟨k, rfl, hk, hall⟩ := hrel
    by_cases hlt : k < xs.length
    · obtain ⟨b, off, rfl, hb, hc⟩ := HS.out.at hlt
      obtain ⟨x, hx⟩ : ∃ x, x = xs.getD k 0 := ⟨_, rfl⟩
      rw [← hx] at hc
      have HX := Lib.hid hx
      clear hx
      by_cases hin : inB lo hi x = true
      · go_wp2_with (go_at_call 109; refine (within_any _ _ _ _).mono ?_; rintro e w' ⟨rfl, rfl⟩)
        go_round
        case rel => exact ⟨k + 1, by go_num, by omega, fun i hi => by
          rcases Nat.lt_succ_iff_lt_or_eq.1 hi with h | rfl
          · exact hall.out i h
          · rw [← HX.out]; exact hin⟩
        case measure => simp [intOf]; omega
      · have hin' : inB lo hi x = false := by simpa using hin
        go_wp2_with (go_at_call 109; refine (within_any _ _ _ _).mono ?_; rintro e w' ⟨rfl, rfl⟩)
        go_ret
        exact ⟨by rw [allIn_false hlt (by rw [← HX.out]; exact hin')]; rfl, rfl⟩
    · obtain rfl : k = xs.length := by omega
      go_wp2_with fail
      go_ret
      exact ⟨by rw [allIn_true hall.out]; rfl, rfl⟩

theorem allIn_iff (lo hi : Int) (xs : List Int) : allIn lo hi xs = true ↔ ∀ i, i < xs.length → inB lo hi (xs.getD i 0) = true := by
  constructor
  · intro h i hi
    unfold allIn at h
    rw [List.all_eq_true] at h
    have := h xs[i] (List.getElem_mem hi)
    simpa [hi] using this
  · exact allIn_true

def Rising (xs : List Int) : Prop := ∀ i, i < xs.length → 0 < i → xs.getD (i - 1) 0 < xs.getD i 0
instance (xs : List Int) : Decidable (Rising xs) := by unfold Rising; exact inferInstance
def risingB (xs : List Int) : Bool := decide (Rising xs)
theorem risingB_true {xs : List Int} (h : Rising xs) : risingB xs = true := by simp [risingB, h]
theorem risingB_false {xs : List Int} (h : ¬ Rising xs) : risingB xs = false := by simp [risingB, h]

end Go.Proofs.Ytkmbkjbammpdhaa

namespace Go.Proofs.Ytkmbkjbammpdhaa
open Go.RowKit

end Go.Proofs.Ytkmbkjbammpdhaa

namespace Go.Proofs.Ytkmbkjbammpdhaa
open Go.RowKit

theorem ValDom_iff (d : List Int) : ValDom d ↔ (1 ≤ d.length ∧ d.length ≤ 8) ∧ Rising d ∧ allIn 0 31 d = true := by
  rw [allIn_iff]
  constructor
  · rintro ⟨h1, h2, h3⟩
    exact ⟨⟨h1, h2⟩, fun i hi h0 => (h3 i hi).2 h0, fun i hi => (h3 i hi).1⟩
  · rintro ⟨⟨h1, h2⟩, h3, h4⟩
    exact ⟨h1, h2, fun i hi => ⟨h4 i hi, h3 i hi⟩⟩

end Go.Proofs.Ytkmbkjbammpdhaa

namespace Go.Proofs.Ytkmbkjbammpdhaa
open Go.RowKit

/-- The rows of marks: in blocks from lo on, below hi. -/
def Marks (lo hi : Nat) (w : World) (v : Value) (D : List (List Int)) (F : Nat → Nat → Bool) : Prop :=
  ∃ (ob cap : Nat) (gs cs : Nat → Nat), v = .slice (some ⟨ob, 0, none⟩) D.length cap ∧ lo ≤ ob ∧ ob < hi ∧ ob < w.heap.size ∧
    ∀ i, i < D.length → w.cell? ⟨ob, i, none⟩ = some (.slice (some ⟨gs i, 0, none⟩) (D.getD i []).length (cs i)) ∧ lo ≤ gs i ∧ gs i < hi ∧ gs i ≠ ob ∧ (∀ j, j < D.length → j ≠ i → gs j ≠ gs i) ∧
      w.rowIs (gs i) 4 (D.getD i []).length (fun k => .bool (F i k))

theorem Marks.kept {lo hi : Nat} {w w' : World} {v : Value} {D : List (List Int)} {F : Nat → Nat → Bool} {S : Nat → Prop} (h : Marks lo hi w v D F) (hk : Kept S w w') (hs : ∀ b, lo ≤ b → b < hi → ¬ S b) : Marks lo hi w' v D F := by
  obtain ⟨ob, cap, gs, cs, hv, h1, h2, h3, h4⟩ := h
  refine ⟨ob, cap, gs, cs, hv, h1, h2, Nat.lt_of_lt_of_le h3 hk.size, fun i hi => ?_⟩
  obtain ⟨a1, a2, a3, a4, a5, a6⟩ := h4 i hi
  exact ⟨(hk.cell h3 (hs _ h1 h2)).trans a1, a2, a3, a4, a5, a6.of_block (hk.block _ a6.lt (hs _ a2 a3))⟩
theorem Marks.up {lo hi : Nat} {w w' : World} {v : Value} {D : List (List Int)} {F : Nat → Nat → Bool} {B : Nat} (h : Marks lo hi w v D F) (hb : Below B w w') (hB : w.heap.size ≤ B) : Marks lo hi w' v D F :=
  h.kept (Kept.of_below (S := fun _ => False) hb hB) (fun _ _ _ x => x)
theorem Marks.congr {lo hi : Nat} {w : World} {v : Value} {D : List (List Int)} {F G : Nat → Nat → Bool} (h : Marks lo hi w v D F) (e : ∀ i k, i < D.length → k < (D.getD i []).length → F i k = G i k) : Marks lo hi w v D G := by
  obtain ⟨ob, cap, gs, cs, hv, h1, h2, h3, h4⟩ := h
  refine ⟨ob, cap, gs, cs, hv, h1, h2, h3, fun i hi => ?_⟩
  obtain ⟨a1, a2, a3, a4, a5, a6⟩ := h4 i hi
  exact ⟨a1, a2, a3, a4, a5, a6.congr fun k hk => by rw [e i k hi hk]⟩
theorem Marks.shape {lo hi : Nat} {w : World} {v : Value} {D : List (List Int)} {F : Nat → Nat → Bool} (h : Marks lo hi w v D F) : ∃ ob cap, v = .slice (some ⟨ob, 0, none⟩) D.length cap := by
  obtain ⟨ob, cap, gs, cs, hv, _⟩ := h
  exact ⟨ob, cap, hv⟩
/-- One of the marks: it is read, and it is set. -/
theorem Marks.at {lo hi : Nat} {w : World} {ob cap : Nat} {D : List (List Int)} {F : Nat → Nat → Bool} (h : Marks lo hi w (.slice (some ⟨ob, 0, none⟩) D.length cap) D F) {i k : Nat} (hi' : i < D.length) (hk : k < (D.getD i []).length) :
    ∃ g c, w.cell? ⟨ob, i, none⟩ = some (.slice (some ⟨g, 0, none⟩) (D.getD i []).length c) ∧ w.cell? ⟨g, k, none⟩ = some (.bool (F i k)) ∧ w.frozen? ⟨g, k, none⟩ = false ∧ lo ≤ g ∧ g < hi ∧ g < w.heap.size ∧
      Marks lo hi (w.setCell ⟨g, k, none⟩ (.bool true)) (.slice (some ⟨ob, 0, none⟩) D.length cap) D (fun i' k' => if i' = i ∧ k' = k then true else F i' k') := by
  obtain ⟨ob', cap', gs, cs, hv, h1, h2, h3, h4⟩ := h
  simp only [Value.slice.injEq, Option.some.injEq, Addr.mk.injEq, and_true, true_and] at hv
  obtain ⟨rfl, rfl⟩ := hv
  obtain ⟨a1, a2, a3, a4, a5, a6⟩ := h4 i hi'
  refine ⟨gs i, cs i, a1, a6.cell hk, a6.frozen k, a2, a3, a6.lt, ob, cap, gs, cs, rfl, h1, h2, by simpa using h3, fun j hj => ?_⟩
  obtain ⟨b1, b2, b3, b4, b5, b6⟩ := h4 j hj
  refine ⟨?_, b2, b3, b4, b5, ?_⟩
  · rw [World.cell?_setCell_far _ _ _ _ (by simp only; exact a4)]; exact b1
  · by_cases hji : j = i
    · subst hji
      refine (a6.set k (.bool true)).congr fun k' hk' => ?_
      by_cases hkk : k' = k
      · simp [hkk]
      · simp [hkk]
    · refine (b6.setOther (by simp only; exact a5 j hj hji) _).congr fun k' hk' => ?_
      simp [hji]

/-- What is marked behind the choices l. -/
def markL (D : List (List Int)) (F : Nat → Nat → Bool) (l : List (List Int)) : Nat → Nat → Bool := fun i k => F i k || l.any (fun ch => (D.getD i []).getD k 0 == ch.getD i 0)
theorem markL_nil (D : List (List Int)) (F : Nat → Nat → Bool) : markL D F [] = F := by funext i k; simp [markL]
theorem markL_append (D : List (List Int)) (F : Nat → Nat → Bool) (a b : List (List Int)) : markL D (markL D F a) b = markL D F (a ++ b) := by
  funext i k; simp [markL, Bool.or_assoc]
/-- In the midst of one choice: the rows before i, and k of row i. -/
def markP (D : List (List Int)) (F : Nat → Nat → Bool) (now : List Int) (i k : Nat) : Nat → Nat → Bool := fun i' k' => F i' k' || (decide (i' < i ∨ (i' = i ∧ k' < k)) && (D.getD i' []).getD k' 0 == now.getD i' 0)
theorem markP_zero (D : List (List Int)) (F : Nat → Nat → Bool) (now : List Int) : markP D F now 0 0 = F := by funext i k; simp [markP]
theorem markP_row (D : List (List Int)) (F : Nat → Nat → Bool) (now : List Int) (i i' k' : Nat) (hk : k' < (D.getD i' []).length) : markP D F now i (D.getD i []).length i' k' = markP D F now (i + 1) 0 i' k' := by
  unfold markP
  congr 2
  rw [decide_eq_decide]
  constructor
  · rintro (h | ⟨rfl, h⟩)
    · exact .inl (by omega)
    · exact .inl (by omega)
  · rintro (h | ⟨rfl, h⟩)
    · by_cases e : i' = i
      · subst e; exact .inr ⟨rfl, hk⟩
      · exact .inl (by omega)
    · omega
theorem markP_set (D : List (List Int)) (F : Nat → Nat → Bool) (now : List Int) (i k : Nat) (h : ((D.getD i []).getD k 0 == now.getD i 0) = true) (i' k' : Nat) : (if i' = i ∧ k' = k then true else markP D F now i k i' k') = markP D F now i (k + 1) i' k' := by
  unfold markP
  by_cases e : i' = i ∧ k' = k
  · obtain ⟨rfl, rfl⟩ := e
    simp only [and_self, if_true, h, Bool.and_true]
    simp
  · rw [if_neg e]
    congr 2
    rw [decide_eq_decide]
    omega
theorem markP_skip (D : List (List Int)) (F : Nat → Nat → Bool) (now : List Int) (i k : Nat) (h : ((D.getD i []).getD k 0 == now.getD i 0) = false) : markP D F now i k = markP D F now i (k + 1) := by
  funext i' k'
  unfold markP
  by_cases e : i' = i ∧ k' = k
  · obtain ⟨rfl, rfl⟩ := e
    simp only [h, Bool.and_false]
  · congr 2
    rw [decide_eq_decide]
    omega
theorem markP_all (D : List (List Int)) (F : Nat → Nat → Bool) (now : List Int) (i k : Nat) (hi : i < D.length) : markP D F now D.length 0 i k = markL D F [now] i k := by
  unfold markP markL
  simp [hi]

end Go.Proofs.Ytkmbkjbammpdhaa

namespace Go.Proofs.Ytkmbkjbammpdhaa
open Go.RowKit

theorem validD_iff {D : List (List Int)} : validD D = true ↔ ValD D := by simp [validD]

/-- Where all blocks that may turn lie above, the domains read as before. -/
theorem keptUp {S : Nat → Prop} {w0 w w' : World} (h : Below w0.heap.size w0 w) (hk : Kept S w w') (hs : ∀ b, S b → w0.heap.size ≤ b) : Below w0.heap.size w0 w' :=
  h.trans (hk.toBelow h.size (fun k h1 h2 => by have := hs k h2; omega))

end Go.Proofs.Ytkmbkjbammpdhaa

namespace Go.Proofs.Ytkmbkjbammpdhaa
open Go.RowKit

theorem choi_8 {D : List (List Int)} (hD : ValD D) (f : Nat) (now : List Int) (hf : f ≤ 6) : (choi D f now).length ≤ 262144 := by
  have h1 := choi_len D (fun d hd => by
    obtain ⟨i, hi, rfl⟩ := List.getElem_of_mem hd
    have := (hD.2.2 i hi).2.1
    simpa [hi] using this) f now
  have : 8 ^ f ≤ 8 ^ 6 := Nat.pow_le_pow_right (by decide) hf
  omega

end Go.Proofs.Ytkmbkjbammpdhaa
