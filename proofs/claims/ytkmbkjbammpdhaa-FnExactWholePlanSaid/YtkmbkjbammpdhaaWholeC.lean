/-
  How many whole plans there are: by the program and by the reference.
-/
import Derived.Test.YtkmbkjbammpdhaaEachW
namespace Go.Proofs.Ytkmbkjbammpdhaa
open Go.RowKit

theorem Try.entersWC (args : Array Value) (w : World) : (callFunc 98 args).run Try.prog w = .ok (.enter 98 args) w :=
  enters_of Try.func98 (by kernel_rfl) rfl args w

theorem countW1_any (v : Value) (cb k : Nat) (w : World) (hk : k ≤ 16777216) (hbox : Box w cb 2 (.int .i64 k)) :
    Calls Try.prog 98 #[v, .pointer (some ⟨cb, 0, none⟩)] w fun e w' => e = .returned (.tuple #[]) ∧ w' = w.setCell ⟨cb, 0, none⟩ (.int .i64 (k + 1 : Nat)) := by
  have hc := hbox.cell
  have hf := hbox.free
  go_enter Try.func98, Try.ntmps98
  go_wp2
  go_end0
  exact ⟨rfl, rfl⟩

noncomputable def wSolsT (r : RowsD) (top : Int) : List (List Int) := wSols r top.toNat r.gains.length []
noncomputable def wcN (r : RowsD) (top : Int) : Int := if topB r top = true then ((wSolsT r top).length : Int) else 0
theorem wSolsT_len {r : RowsD} {top : Int} (h : topB r top = true) : (wSolsT r top).length ≤ 1296 := by
  obtain ⟨hv, h4, t1, t5⟩ := topB_parts h
  have hgl := hv.gl
  have h1 := wSols_len r top.toNat r.gains.length []
  have h2 : (top.toNat + 1) ^ r.gains.length ≤ 6 ^ 4 := Nat.le_trans (Nat.pow_le_pow_left (by omega) _) (Nat.pow_le_pow_right (by decide) (by omega))
  have : 6 ^ 4 = 1296 := by decide
  unfold wSolsT
  omega

set_option maxHeartbeats 2000000 in
set_option maxRecDepth 4000 in
theorem implWC_any (v : Value) (r : RowsD) (top : Int) (w : World) (h : RdR w v r) :
    Calls Try.prog 23 #[v, .int .i64 top] w fun e w' => e = .returned (.tuple #[.int .i64 (wcN r top), .bool (topB r top)]) ∧ Below w.heap.size w w' := by
  obtain ⟨a1, c1, a2, c2, a3, c3, rfl⟩ := h.shape
  have HP := Lib.hid h
  clear h
  obtain ⟨q, hq⟩ : ∃ q, topB r top = q := ⟨_, rfl⟩
  have HQ := Lib.hid hq
  rw [hq]
  clear hq
  go_enter Try.func23, Try.ntmps23
  go_wp2_with fail
  refine Calls.at fun W hW => ?_
  have hb := Lib.hid (show Below w.heap.size w W by subst hW; (repeat' first | exact Below.refl _ _ | assumption | refine Below.alloc ?_ ?_ _ | refine Below.setCell ?_ ?_ _ | refine Below.drew ?_ | (simp; done) | (simp; omega)))
  have hk := Lib.hid (show Blk W w.heap.size 26 #[.int .i64 r.vars, .slice a1 r.nums.length c1, .slice a2 r.bnds.length c2, .slice a3 r.gains.length c3] by subst hW; exact Blk.new _ _ _)
  clear hW
  refine (isTop_any _ r top W (HP.out.up hb.out (Nat.le_refl _))).mono ?_
  rintro e w1 ⟨rfl, hb1⟩
  rw [HQ.out]
  have HB1 := Lib.hid (hb.out.trans (hb1.mono hb.out.size))
  have HK1 := Lib.hid (hk.out.below hb1 hk.out.lt)
  have d0 : w1.cell? ⟨w.heap.size, 0, none⟩ = some (.int .i64 r.vars) := HK1.out.cell 0 rfl
  have d1 : w1.cell? ⟨w.heap.size, 1, none⟩ = some (.slice a1 r.nums.length c1) := HK1.out.cell 1 rfl
  have d2 : w1.cell? ⟨w.heap.size, 2, none⟩ = some (.slice a2 r.bnds.length c2) := HK1.out.cell 2 rfl
  have d3 : w1.cell? ⟨w.heap.size, 3, none⟩ = some (.slice a3 r.gains.length c3) := HK1.out.cell 3 rfl
  have hsz := HB1.out.size
  have hkl := HK1.out.lt
  clear hb1 hb hk
  cases q
  · have HN := Lib.hid (show wcN r top = 0 by unfold wcN; rw [HQ.out]; rfl)
    go_wp2_with fail
    go_ret2
    exact ⟨by rw [HN.out]; rfl, HB1.out⟩
  · obtain ⟨hv, h4, t1, t5⟩ := topB_parts HQ.out
    have hgl := hv.gl
    have HLEN := Lib.hid (wSolsT_len HQ.out)
    obtain ⟨T, rfl⟩ := Int.eq_ofNat_of_zero_le (by omega : 0 ≤ top)
    have HN := Lib.hid (show wcN r (T : Int) = ((wSols r T r.gains.length []).length : Int) by unfold wcN; rw [HQ.out, if_pos rfl]; rfl)
    have HL2 := Lib.hid (show (wSols r T r.gains.length []).length ≤ 1296 from HLEN.out)
    have HGL := Lib.hid hgl
    clear hgl hv
    go_wp2_with fail
    refine Calls.at fun W2 hW2 => ?_
    have hb2 := Lib.hid (show Below w.heap.size w W2 by subst hW2; exact HB1.out.alloc hsz _)
    have hbx := Lib.hid (show Box W2 w1.heap.size 2 (.int .i64 0) by subst hW2; exact Box.new w1 2 (.int .i64 0))
    have hz2 : W2.heap.size = w1.heap.size + 1 := by subst hW2; simp
    clear hW2 d0 d1 d2 d3
    refine (eachWhole_any r _ T r.gains.length HGL.out.symm (by have := HGL.out; omega) (by omega) 98 Try.entersWC #[.pointer (some ⟨w1.heap.size, 0, none⟩)] (w1.heap.size + 1) (· = w1.heap.size) (by omega)
      (fun done w' => Box w' w1.heap.size 2 (.int .i64 (done.length : Int)) ∧ w1.heap.size < w'.heap.size ∧ Below w1.heap.size W2 w') W2 ?_ ?_ ?_ r.gains.length none 0 [] W2 [] 0 rfl (by simp) (by omega) (World.ownsRow_nil _ _ _ _) (Kept.refl _ _) ?_ (by have := HL2.out; simp; omega)).mono ?_
    · intro X hX
      exact HP.out.up (hb2.out.trans (hX.toBelow (B := w.heap.size) hb2.out.size (by intro k h1 h2; omega))) (Nat.le_refl _)
    · rintro done wa wb ⟨hb, hlt, hbl⟩ h12
      exact ⟨hb.below h12 hlt, by have := h12.size; omega, hbl.trans (h12.mono (by omega))⟩
    · rintro done s a cap m wa _ _ _ hlen _ ⟨hb, hlt, hbl⟩
      refine (countW1_any _ _ _ wa hlen hb).mono ?_
      rintro e wb ⟨rfl, rfl⟩
      refine ⟨rfl, ⟨?_, by simpa using hlt, hbl.setCell (Nat.le_refl _) _⟩, Kept.setCell (S := (· = w1.heap.size)) (Kept.refl _ _) (.inr rfl) _⟩
      have := hb.set (.int .i64 ((done.length + 1 : Nat) : Int))
      simpa using this
    · exact ⟨hbx.out, by omega, Below.refl _ _⟩
    · rintro e wa ⟨rfl, ⟨hb, hlt, hbl⟩, hk⟩
      simp only [List.nil_append] at hb
      have hc := hb.cell
      have HB := Lib.hid (hb2.out.trans (hbl.mono hsz))
      clear hbl hb hk
      go_wp2_with fail
      go_ret2
      exact ⟨by rw [HN.out]; rfl, HB.out⟩

/-- How many of the first are whole plans. -/
noncomputable def wcUp (r : RowsD) (B n N : Nat) : Nat := ((List.range N).filter fun m => wholeB r (digB B n m)).length
theorem wcUp_zero (r : RowsD) (B n : Nat) : wcUp r B n 0 = 0 := rfl
theorem wcUp_le (r : RowsD) (B n N : Nat) : wcUp r B n N ≤ N := by unfold wcUp; simpa using List.length_filter_le (fun m => wholeB r (digB B n m)) (List.range N)
theorem wcUp_succ (r : RowsD) (B n N : Nat) : wcUp r B n (N + 1) = wcUp r B n N + if wholeB r (digB B n N) = true then 1 else 0 := by
  unfold wcUp
  rw [List.range_succ, List.filter_append, List.length_append]
  by_cases h : wholeB r (digB B n N) = true <;> simp [h]
theorem wcUp_all (r : RowsD) (top n : Nat) : (wSols r top n []).length = wcUp r (top + 1) n ((top + 1) ^ n) := by
  rw [wSols_dig]
  unfold wcUp
  generalize (top + 1) ^ n = K
  induction K with
  | zero => rfl
  | succ K ih =>
    rw [List.range_succ, List.flatMap_append, List.filter_append, List.length_append, List.length_append, ih]
    congr 1
    by_cases h : wholeB r (digB (top + 1) n K) = true <;> simp [h]
theorem digB_at (B : Nat) (hB : 0 < B) : ∀ (n N i : Nat), N < B ^ n → i < n → 0 ≤ (digB B n N).getD i 0 ∧ (digB B n N).getD i 0 < (B : Int)
  | 0, N, i, _, h => by omega
  | n + 1, N, 0, hN, _ => by
    rw [Nat.pow_succ] at hN
    have : N / B ^ n < B := Nat.div_lt_of_lt_mul hN
    simp only [digB, List.getD_cons_zero]
    exact ⟨Int.natCast_nonneg _, by exact_mod_cast this⟩
  | n + 1, N, i + 1, hN, h => by
    simp only [digB, List.getD_cons_succ]
    exact digB_at B hB n _ i (Nat.mod_lt _ (Nat.pow_pos hB)) (by omega)

/-- What number the digits tell. -/
def digV (B : Nat) : List Int → Nat
  | [] => 0
  | d :: xs => d.toNat * B ^ xs.length + digV B xs
theorem digV_dig (B : Nat) : ∀ (n N : Nat), digV B (digB B n N) = if n = 0 then 0 else N
  | 0, N => rfl
  | n + 1, N => by
    simp only [digB, digV, digB_len, Int.toNat_natCast]
    rw [digV_dig B n]
    by_cases h : n = 0
    · subst h; simp
    · rw [if_neg h, if_neg (by omega), Nat.mul_comm]
      exact Nat.div_add_mod _ _
noncomputable def digAt (B g n : Nat) (w : World) : Nat := digV B ((List.range n).map fun i => intOf ((w.cell? ⟨g, i, none⟩).getD (.int .i64 0)))
theorem digAt_owns {base g n cap B N : Nat} {w : World} (h0 : n ≠ 0) (h : w.ownsRow base 2 1 (.slice (some ⟨g, 0, none⟩) n cap) n ((digB B n N).map I64)) : digAt B g n w = N := by
  unfold digAt
  rw [show ((List.range n).map fun i => intOf ((w.cell? ⟨g, i, none⟩).getD (.int .i64 0))) = digB B n N from ?_, digV_dig, if_neg h0]
  refine List.ext_getElem? fun i => ?_
  by_cases hi : i < n
  · have := h.cellAt i (by omega)
    rw [List.getElem?_map] at this
    obtain ⟨d, hd⟩ : ∃ d, (digB B n N)[i]? = some d := ⟨_, List.getElem?_eq_getElem (by rw [digB_len]; exact hi)⟩
    rw [hd] at this
    simp [hi, hd, this, I64, intOf]
  · rw [List.getElem?_eq_none (by simp; omega), List.getElem?_eq_none (by rw [digB_len]; omega)]

set_option maxHeartbeats 2000000 in
set_option maxRecDepth 4000 in
theorem specWC_any (v : Value) (r : RowsD) (top : Int) (w : World) (h : RdR w v r) :
    Calls Try.prog 22 #[v, .int .i64 top] w fun e w' => e = .returned (.tuple #[.int .i64 (wcN r top), .bool (topB r top)]) ∧ Below w.heap.size w w' := by
  obtain ⟨i0, hi, hz0, hz1, hz2⟩ := info_parts Try.infoI64
  obtain ⟨a1, c1, a2, c2, a3, c3, rfl⟩ := h.shape
  have HP := Lib.hid h
  clear h
  obtain ⟨q, hq⟩ : ∃ q, topB r top = q := ⟨_, rfl⟩
  have HQ := Lib.hid hq
  rw [hq]
  clear hq
  go_enter Try.func22, Try.ntmps22
  go_wp2_with fail
  refine Calls.at fun W hW => ?_
  have hb := Lib.hid (show Below w.heap.size w W by subst hW; (repeat' first | exact Below.refl _ _ | assumption | refine Below.alloc ?_ ?_ _ | refine Below.setCell ?_ ?_ _ | refine Below.drew ?_ | (simp; done) | (simp; omega)))
  have hk := Lib.hid (show Blk W w.heap.size 26 #[.int .i64 r.vars, .slice a1 r.nums.length c1, .slice a2 r.bnds.length c2, .slice a3 r.gains.length c3] by subst hW; exact Blk.new _ _ _)
  clear hW
  refine (l07Rows_any w.heap.size _ _ _ _ r top W hk.out (HP.out.up hb.out (Nat.le_refl _))).mono ?_
  rintro e w1 ⟨rfl, m1, rfl⟩
  rw [HQ.out]
  cases q
  · have HN := Lib.hid (show wcN r top = 0 by unfold wcN; rw [HQ.out]; rfl)
    go_wp2_with fail
    go_ret2
    exact ⟨by rw [HN.out]; rfl, below_drewN hb.out _⟩
  · obtain ⟨hv, h4, t1, t5⟩ := topB_parts HQ.out
    have hgl := hv.gl
    obtain ⟨T, rfl⟩ := Int.eq_ofNat_of_zero_le (by omega : 0 ≤ top)
    obtain ⟨n, hn⟩ : ∃ n, n = r.gains.length := ⟨_, rfl⟩
    have HN := Lib.hid (show wcN r (T : Int) = (wcUp r (T + 1) n ((T + 1) ^ n) : Int) by unfold wcN; rw [HQ.out, if_pos rfl, ← wcUp_all, hn]; rfl)
    have hvn : r.vars = (n : Int) := by rw [hn]; exact hgl.symm
    have HVN := Lib.hid hvn
    have hn4 : n ≤ 4 := by omega
    have hn1 : 1 ≤ n := by have := hv.v1; omega
    have d0 : W.cell? ⟨w.heap.size, 0, none⟩ = some (.int .i64 n) := by have := hk.out.cell 0 rfl; rwa [hvn] at this
    have hszW := hk.out.lt
    have hbz := hb.out.size
    have hpw : (T + 1) ^ n ≤ 1296 := by
      have h2 : (T + 1) ^ n ≤ 6 ^ 4 := Nat.le_trans (Nat.pow_le_pow_left (by omega) _) (Nat.pow_le_pow_right (by decide) (by omega))
      have : 6 ^ 4 = 1296 := by decide
      omega
    have hpp : 0 < (T + 1) ^ n := Nat.pow_pos (by omega)
    clear hgl hv hn hvn
    go_wp2_with (at_make; refine wpList_make_full _ rfl _ _ 36 rfl (w.heap.size + 1) 2 i0 (.int .i64 0) 1 Try.underlying36 hi hz0 hz1 .i64 .i64 n n n rfl rfl rfl rfl (by rw [hz2]; omega) (by unfold maxLen; omega) (by simp; omega) ?_; intro w2 hown hgrow)
    have hb2 : Below w.heap.size w w2 := (below_drewN hb.out m1).grown hgrow (by simp; omega) (by intro k hk; cases hk)
    have hk2 : Blk w2 w.heap.size 26 #[.int .i64 r.vars, .slice a1 r.nums.length c1, .slice a2 r.bnds.length c2, .slice a3 r.gains.length c3] := (hgrow.block w.heap.size hszW (by intro h; cases h)).trans hk.out
    have hz : (madeCells (Value.int .i64 0).cells (n * 1)).toList = (digB (T + 1) n 0).map I64 := by
      rw [digB_zero]; simpa [Value.cells, I64] using toList_madeCells_one (Value.int .i64 0) n
    rw [hz] at hown
    have HZ := Lib.hid hown
    have HK2 := Lib.hid hk2
    have HB2 := Lib.hid hb2
    have HKW := Lib.hid hk.out
    clear hown hk2 hb2 hgrow hk hb hz d0 hszW hbz
    obtain ⟨P, hP⟩ : ∃ P, P = (T + 1) ^ n := ⟨_, rfl⟩
    rw [← hP] at hpw hpp HN
    have HPP := Lib.hid hP
    clear hP
    obtain ⟨g, hg⟩ : ∃ g, g = W.heap.size := ⟨_, rfl⟩
    have hgw := HB2.out.size
    have hgt : w.heap.size < g := by have := HKW.out.lt; omega
    rw [show (W.drewN m1).heap.size = W.heap.size from rfl, ← hg] at HZ
    rw [← hg]
    clear hg HKW
    go_wp2_with fail
    go_loopw [7, 8] (fun c m wr => ∃ N : Nat, N ≤ P ∧ c = .int .i64 (wcUp r (T + 1) n N) ∧ m = .bool (decide (N < P)) ∧ Hid (wr.ownsRow (w.heap.size + 1) 2 1 (.slice (some ⟨g, 0, none⟩) n n) n ((digB (T + 1) n (N % P)).map I64)) ∧ Hid (Blk wr w.heap.size 26 #[.int .i64 r.vars, .slice a1 r.nums.length c1, .slice a2 r.bnds.length c2, .slice a3 r.gains.length c3]) ∧ Hid (Below w.heap.size w wr)) (fun c m wr => match m with | .bool true => P - digAt (T + 1) g n wr | _ => 0)
    case atStart => exact ⟨0, Nat.zero_le _, by rw [wcUp_zero]; rfl, by rw [decide_eq_true hpp], by rw [Nat.zero_mod]; exact HZ, HK2, HB2⟩
    case round =>
      obtain ⟨N, hN, rfl, rfl, HO1, HK1, HB1⟩ := hrel
      by_cases hlt : N < P
      · have hwl := wcUp_le r (T + 1) n N
        have HUP := Lib.hid (wcUp_succ r (T + 1) n N)
        rw [decide_eq_true hlt]
        have HO2 := Lib.hid (show wr.ownsRow (w.heap.size + 1) 2 1 (.slice (some ⟨g, 0, none⟩) n n) n ((digB (T + 1) n N).map I64) by have := HO1.out; rwa [Nat.mod_eq_of_lt hlt] at this)
        have HNX := Lib.hid (show nextL (T : Int) (digB (T + 1) n N) = (decide (N + 1 < P), digB (T + 1) n ((N + 1) % P)) by have := next_dig T n N (by rw [← HPP.out]; exact hlt); rwa [← HPP.out] at this)
        have HAT := Lib.hid (fun i hi => digB_at (T + 1) (by omega) n N i (by rw [← HPP.out]; exact hlt) hi)
        have HXL := Lib.hid (digB_len (T + 1) n N)
        obtain ⟨cc, hcc⟩ : ∃ cc, cc = wcUp r (T + 1) n N := ⟨_, rfl⟩
        rw [← hcc] at HUP hwl
        rw [← hcc]
        clear hcc
        have HMU := Lib.hid (digAt_owns (by omega) HO2.out)
        obtain ⟨x, hx⟩ : ∃ x, x = digB (T + 1) n N := ⟨_, rfl⟩
        rw [← hx] at HUP HO2 HNX HAT HXL
        clear hx HO1
        obtain ⟨q, hq⟩ : ∃ q, q = wholeB r x := ⟨_, rfl⟩
        have HWQ := Lib.hid (show wokB r x T = q by
          unfold wokB
          rw [show ((x.length : Int) == r.vars) = true by rw [HXL.out, HVN.out]; simp, allB_true (fun j hj => ?_), ← hq]
          · simp
          · have hj2 := HAT.out j (by have := HXL.out; omega)
            exact inB_iff.2 ⟨hj2.1, by omega⟩)
        rw [← hq] at HUP
        clear hq
        go_wp2_with fail
        have hsl : RdI wr (.slice (some ⟨g, 0, none⟩) n n) x := slc_of_owns HO2.out
        refine (l07Whole_any w.heap.size _ _ _ _ r _ x T wr HK1.out (HP.out.up HB1.out (Nat.le_refl _)) hsl (by rw [HVN.out]; omega)).mono ?_
        rintro e w3 ⟨rfl, hb3⟩
        rw [HWQ.out]
        have hz3 := HB1.out.size
        have HO3 := Lib.hid (owns_below HO2.out hb3 (Nat.le_refl _))
        have HK3 := Lib.hid (HK1.out.below hb3 HK1.out.lt)
        have HB3 := Lib.hid (HB1.out.trans (hb3.mono hz3))
        clear hb3 hsl
        have HNC := Lib.hid (l07Next_any (w.heap.size + 1) g n x n (T : Int) w3 HXL.out (by omega) t5 (fun i hi => (HAT.out i hi).1) HO3.out)
        have HEND := Lib.hid (show ∀ w4 : World, w4.ownsRow (w.heap.size + 1) 2 1 (.slice (some ⟨g, 0, none⟩) n n) n ((digB (T + 1) n ((N + 1) % P)).map I64) → (match Value.bool (decide (N + 1 < P)) with | .bool true => P - digAt (T + 1) g n w4 | _ => 0) < P - N by
          intro w4 ho
          by_cases h1 : N + 1 < P
          · rw [Nat.mod_eq_of_lt h1] at ho
            rw [decide_eq_true h1]
            have := digAt_owns (by omega) ho
            simp only [this]
            omega
          · rw [decide_eq_false h1]
            simp only
            omega)
        cases q
        · go_wp2_with fail
          refine HNC.out.mono ?_
          rintro e w4 ⟨rfl, ho4, hk4⟩
          rw [HNX.out] at ho4 ⊢
          have HB4 := Lib.hid (HB3.out.trans (hk4.toBelow HB3.out.size (by rintro k h1 rfl; omega)))
          have HK4 := Lib.hid (HK3.out.kept hk4 (by show ¬ (w.heap.size = g); omega))
          have HO4 := Lib.hid ho4
          clear ho4 hk4
          go_wp2_with fail
          go_roundw
          case rel => exact ⟨N + 1, hlt, by rw [HUP.out]; rfl, rfl, HO4, HK4, HB4⟩
          case measure => simp only [HMU.out]; exact HEND.out _ HO4.out
        · have hcc : cc + 1 ≤ 1296 := by omega
          go_wp2_with fail
          refine HNC.out.mono ?_
          rintro e w4 ⟨rfl, ho4, hk4⟩
          rw [HNX.out] at ho4 ⊢
          have HB4 := Lib.hid (HB3.out.trans (hk4.toBelow HB3.out.size (by rintro k h1 rfl; omega)))
          have HK4 := Lib.hid (HK3.out.kept hk4 (by show ¬ (w.heap.size = g); omega))
          have HO4 := Lib.hid ho4
          clear ho4 hk4
          go_wp2_with fail
          go_roundw
          case rel => exact ⟨N + 1, hlt, by rw [HUP.out]; rfl, rfl, HO4, HK4, HB4⟩
          case measure => simp only [HMU.out]; exact HEND.out _ HO4.out
      · obtain rfl : N = P := by omega
        rw [decide_eq_false hlt]
        go_wp2_with fail
        go_ret2
        exact ⟨by rw [HN.out]; rfl, HB1.out⟩

end Go.Proofs.Ytkmbkjbammpdhaa
