/-
  Clauses, by the reference.
-/
import Derived.Test.YtljhohacgceojaaClause
namespace Go.Proofs.Ytljhohacgceojaa
open Go.RowKit

set_option maxHeartbeats 400000 in
theorem specLetters_any (n : Int) (w : World) :
    Calls Try.prog 127 #[.int .i64 n] w fun e w' => e = .returned (.bool (inB 1 10 n)) ∧ w = w' := by
  go_enter Try.func127, Try.ntmps127
  go_wp2_with (go_at_call 134; refine (in_any _ _ _ _).mono ?_; rintro e w' ⟨rfl, rfl⟩)
  go_ret
  exact ⟨rfl, rfl⟩

set_option maxHeartbeats 400000 in
theorem specLetter_any (x : Int) (w : World) (h1 : -10 ≤ x) (h2 : x ≤ 10) :
    Calls Try.prog 129 #[.int .i64 x] w fun e w' => e = .returned (.int .i64 (x.natAbs : Nat)) ∧ w = w' := by
  by_cases h : x < 0
  · go_enter Try.func129, Try.ntmps129
    go_wp2_with fail
    go_ret
    exact ⟨congrArg (fun z => Ending.returned (Value.int IntKind.i64 z)) (by omega), rfl⟩
  · go_enter Try.func129, Try.ntmps129
    go_wp2_with fail
    go_ret
    exact ⟨congrArg (fun z => Ending.returned (Value.int IntKind.i64 z)) (by omega), rfl⟩

theorem Try.infoBool : (Try.prog.info? 4).map (fun i => (i.zero, i.size, i.bytes)) = some (some (.bool false), 1, 1) := by kernel_rfl

/-- What has been seen of the first k literals. -/
def seenL (xs : List Int) (k : Nat) : List Value := (List.range 11).map fun d => .bool (!allB k fun j => decide ((xs.getD j 0).natAbs ≠ d))
theorem seenL_len (xs : List Int) (k : Nat) : (seenL xs k).length = 11 := by simp [seenL]
theorem seenL_zero (xs : List Int) : seenL xs 0 = List.replicate 11 (.bool false) := rfl
theorem seenL_at (xs : List Int) (k d : Nat) (h : d < 11) : (seenL xs k)[d]? = some (.bool (!allB k fun j => decide ((xs.getD j 0).natAbs ≠ d))) := by
  unfold seenL; simp [h]
theorem allB_succ (k : Nat) (p : Nat → Bool) : allB (k + 1) p = (allB k p && p k) := by unfold allB; rw [List.range_succ]; simp
theorem seenL_set (xs : List Int) (k : Nat) (h : (xs.getD k 0).natAbs < 11) : (seenL xs k).set (xs.getD k 0).natAbs (.bool true) = seenL xs (k + 1) := by
  apply List.ext_getElem?
  intro d
  rw [List.getElem?_set]
  by_cases hd : d < 11
  · rw [seenL_at xs (k + 1) d hd, allB_succ]
    by_cases he : (xs.getD k 0).natAbs = d
    · rw [if_pos he, if_pos (by rw [seenL_len]; exact h)]
      simp only [ne_eq, he, not_true_eq_false, decide_false, Bool.and_false, Bool.not_false]
    · rw [if_neg he, seenL_at xs k d hd]
      simp only [ne_eq, he, not_false_eq_true, decide_true, Bool.and_true]
  · have h1 : (seenL xs k)[d]? = none := by rw [List.getElem?_eq_none]; rw [seenL_len]; omega
    have h2 : (seenL xs (k + 1))[d]? = none := by rw [List.getElem?_eq_none]; rw [seenL_len]; omega
    have he : ¬ (xs.getD k 0).natAbs = d := by omega
    rw [if_neg he, h1, h2]

set_option maxHeartbeats 2000000 in
set_option maxRecDepth 4000 in
theorem specLits_any (n : Int) (v : Value) (xs : List Int) (w : World) (h : RdI w v xs) (hn : inB 1 10 n = true) :
    Calls Try.prog 128 #[.int .i64 n, v] w fun e w' => e = .returned (.bool (litsB n xs)) ∧ Below w.heap.size w w' := by
  obtain ⟨i0, hi, hz0, hz1, hz2⟩ := info_parts Try.infoBool
  obtain ⟨a, c, rfl⟩ := h.shape
  have hl := h.len
  unfold maxLen at hl
  have HS := Lib.hid h
  have HN := Lib.hid hn
  obtain ⟨n1, n2⟩ := inB_iff.1 hn
  clear h hn
  go_enter Try.func128, Try.ntmps128
  go_wp2_with (at_make; refine wpList_make_full _ rfl _ _ 160 rfl w.heap.size 4 i0 (.bool false) 1 Try.underlying160 hi hz0 hz1 .i64 .i64 11 11 11 rfl rfl rfl rfl (by rw [hz2]; decide) (by simp [maxLen]) (by simp) ?_; intro w1 hown hgrow)
  have hb1 : Below w.heap.size w w1 := (Below.refl _ _).grown hgrow (Nat.le_refl _) (by intro k hk; cases hk)
  have hz : (madeCells (Value.bool false).cells (11 * 1)).toList = seenL xs 0 := by
    rw [seenL_zero]; simpa [Value.cells] using toList_madeCells_one (Value.bool false) 11
  rw [hz] at hown
  have HO := Lib.hid hown
  have HB := Lib.hid hb1
  clear hown hb1 hz hgrow
  go_loopw [10] (fun i wr => ∃ k : Nat, i = .int .i64 k ∧ k ≤ xs.length ∧ Hid (∀ j, j < k → litAt n xs j = true) ∧ Hid (wr.ownsRow w.heap.size 4 1 (.slice (some ⟨w.heap.size, 0, none⟩) 11 11) 11 (seenL xs k)) ∧ Hid (Below w.heap.size w wr)) (fun i _ => xs.length - (intOf i).toNat)
  case atStart => exact ⟨0, rfl, Nat.zero_le _, fun j hj => by omega, HO.out, HB.out⟩
  case round =>
    obtain ⟨k, rfl, hk, hall, HO1, HB1⟩ := hrel
    by_cases hlt : k < xs.length
    · obtain ⟨b, off, rfl, hb0, hc⟩ := (HS.out.up HB1.out (Nat.le_refl _)).at hlt
      have hno := Lib.hid (show litAt n xs k = false → litsB n xs = false from fun h => allB_false hlt h)
      have hok := Lib.hid (show litAt n xs k = true → ∀ j, j < k + 1 → litAt n xs j = true from fun h j hj => by
        by_cases hjk : j < k
        · exact hall.out j hjk
        · obtain rfl : j = k := by omega
          exact h)
      by_cases hin : inB (-n) n (xs.getD k 0) = true
      · obtain ⟨x1, x2⟩ := inB_iff.1 hin
        have HIN := Lib.hid hin
        clear hin
        by_cases hx0 : xs.getD k 0 = 0
        · have hg := Lib.hid (hno.out (by unfold litAt litB; rw [hx0]; simp))
          rw [hx0] at hc x1 x2 HIN
          clear hx0
          go_wp2_with (go_at_call 134; refine (in_any _ _ _ _).mono ?_; rintro e w' ⟨rfl, rfl⟩)
          go_ret
          exact ⟨by rw [hg.out]; rfl, HB1.out⟩
        · have hlit := Lib.hid (show litB n (xs.getD k 0) = true by unfold litB; rw [HIN.out]; simp; exact hx0)
          have hne : ((xs.getD k 0) == 0) = false := by simpa using hx0
          have hd := HO1.out.cellAt (xs.getD k 0).natAbs (by omega)
          have hf := HO1.out.frozenAt (xs.getD k 0).natAbs
          rw [seenL_at xs k _ (by omega)] at hd
          have hval := Lib.hid (show litAt n xs k = allB k fun j => decide ((xs.getD j 0).natAbs ≠ (xs.getD k 0).natAbs) by unfold litAt; rw [hlit.out, Bool.true_and])
          have hset := Lib.hid (seenL_set xs k (by omega))
          have hst := Lib.hid (HO1.out.stored (xs.getD k 0).natAbs (.bool true)).1
          generalize hq : (allB k fun j => decide ((xs.getD j 0).natAbs ≠ (xs.getD k 0).natAbs)) = q at *
          clear hq hx0
          generalize xs.getD k 0 = x at *
          have hna : (x.natAbs : Int) < 11 := by omega
          have hna0 : (0 : Int) ≤ (x.natAbs : Int) := by omega
          cases q
          · have hg := Lib.hid (hno.out hval.out)
            go_wp2_with (first
              | (go_at_call 134; refine (in_any _ _ _ _).mono ?_; rintro e w' ⟨rfl, rfl⟩)
              | (go_at_call 129; refine (specLetter_any _ _ (by omega) (by omega)).mono ?_; rintro e w' ⟨rfl, rfl⟩))
            go_ret
            exact ⟨by rw [hg.out]; rfl, HB1.out⟩
          · have hg := Lib.hid (hok.out hval.out)
            go_wp2_with (first
              | (go_at_call 134; refine (in_any _ _ _ _).mono ?_; rintro e w' ⟨rfl, rfl⟩)
              | (go_at_call 129; refine (specLetter_any _ _ (by omega) (by omega)).mono ?_; rintro e w' ⟨rfl, rfl⟩))
            go_roundw
            case rel => exact ⟨k + 1, by go_num, by omega, hg.out, by rw [← hset.out]; exact hst.out, HB1.out.setCell (Nat.le_refl _) _⟩
            case measure => simp [intOf]; omega
      · have hif := bool_false hin
        have hg := Lib.hid (hno.out (by unfold litAt litB; rw [hif, Bool.and_false, Bool.false_and]))
        clear hin
        generalize xs.getD k 0 = x at *
        go_wp2_with (go_at_call 134; refine (in_any _ _ _ _).mono ?_; rintro e w' ⟨rfl, rfl⟩)
        go_ret
        exact ⟨by rw [hg.out]; rfl, HB1.out⟩
    · obtain rfl : k = xs.length := by omega
      go_wp2_with fail
      go_ret
      exact ⟨by rw [show litsB n xs = true from allB_true hall.out]; rfl, HB1.out⟩

set_option maxHeartbeats 2000000 in
theorem specClause_any (n : Int) (v : Value) (xs : List Int) (w : World) (h : RdI w v xs) :
    Calls Try.prog 97 #[.int .i64 n, v] w fun e w' => e = .returned (.bool (clauseB n xs)) ∧ Below w.heap.size w w' := by
  obtain ⟨a, c, rfl⟩ := h.shape
  have hl := h.len
  unfold maxLen at hl
  have HS := Lib.hid h
  clear h
  by_cases hn : inB 1 10 n = true
  · have HN := Lib.hid hn
    obtain ⟨n1, n2⟩ := inB_iff.1 hn
    clear hn
    by_cases hls : litsB n xs = true
    · have HL := Lib.hid hls
      have hcl := Lib.hid (show clauseB n xs = allB xs.length (downAt xs) by unfold clauseB; rw [HN.out, ← clause_eq, hls]; simp)
      have hbd := Lib.hid (show ∀ i, i < xs.length → -10 ≤ xs.getD i 0 ∧ xs.getD i 0 ≤ 10 from fun i hi => by
        have := allB_iff.1 hls i hi
        unfold litAt at this
        rw [Bool.and_eq_true] at this
        have := litB_bd HN.out this.1
        omega)
      clear hls
      go_enter Try.func97, Try.ntmps97
      go_wp2_with (first
        | (go_at_call 127; refine (specLetters_any _ _).mono ?_; rintro e w' ⟨rfl, rfl⟩; rw [HN.out])
        | (go_at_call 128; refine (specLits_any _ _ xs _ HS.out HN.out).mono ?_; rintro e w1 ⟨rfl, hb1⟩; rw [HL.out]))
      have HB := Lib.hid hb1
      clear hb1
      go_loopw [5] (fun i wr => ∃ k : Nat, i = .int .i64 k ∧ 1 ≤ k ∧ Hid (∀ j, j < k → j < xs.length → downAt xs j = true) ∧ Hid (Below w.heap.size w wr)) (fun i _ => xs.length - (intOf i).toNat)
      case atStart => exact ⟨1, rfl, Nat.le_refl _, (fun j hj _ => by
        obtain rfl : j = 0 := by omega
        rfl), HB.out⟩
      case round =>
        obtain ⟨k, rfl, hk1, hall, HB1⟩ := hrel
        by_cases hlt : k < xs.length
        · obtain ⟨m, rfl⟩ : ∃ m, k = m + 1 := ⟨k - 1, by omega⟩
          have hu := HS.out.up HB1.out (Nat.le_refl _)
          obtain ⟨b, off, rfl, hb0, hc⟩ := hu.at hlt
          obtain ⟨_, _, e, _, hc2⟩ := hu.at (i := m) (by omega)
          simp only [Option.some.injEq, Addr.mk.injEq, and_true] at e
          obtain ⟨rfl, rfl⟩ := e
          obtain ⟨x1, x2⟩ := hbd.out _ hlt
          obtain ⟨y1, y2⟩ := hbd.out m (by omega)
          have hval := Lib.hid (show downAt xs (m + 1) = decide ((xs.getD m 0).natAbs ≤ (xs.getD (m + 1) 0).natAbs) by unfold downAt; simp)
          have hno := Lib.hid (show downAt xs (m + 1) = false → clauseB n xs = false from fun h => by rw [hcl.out]; exact allB_false hlt h)
          have hok := Lib.hid (show downAt xs (m + 1) = true → ∀ j, j < m + 2 → j < xs.length → downAt xs j = true from fun h j hj hj2 => by
            by_cases hjk : j < m + 1
            · exact hall.out j hjk hj2
            · obtain rfl : j = m + 1 := by omega
              exact h)
          clear hu
          have hjm : (m : Int) < xs.length := by omega
          have hjl : ((m + 1 : Nat) : Int) < xs.length := by omega
          have hjt : (((m + 1 : Nat) : Int) - 1).toNat = m := by omega
          have hjw : IntKind.i64.wrap (((m + 1 : Nat) : Int) - 1) = (m : Int) := by rw [IntWalk.i64_in _ (by omega)]; omega
          generalize xs.getD (m + 1) 0 = x at *
          generalize xs.getD m 0 = y at *
          by_cases hxy : y.natAbs ≤ x.natAbs
          · have hxd : decide (x.natAbs < y.natAbs) = false := by simp; omega
            have hg := Lib.hid (hok.out (by rw [hval.out]; simp [hxy]))
            clear hxy
            go_wp2_with fail
            go_quiet ((go_at_call 129; exact quiet_same (specLetter_any _ _ (by omega) (by omega))))
            clear hjt hjw
            go_wp2_with fail
            go_roundw
            case rel => exact ⟨m + 2, by go_num, by omega, hg.out, below_drewN HB1.out _⟩
            case measure => simp [intOf]; omega
          · have hxd : decide (x.natAbs < y.natAbs) = true := by simp; omega
            have hg := Lib.hid (hno.out (by rw [hval.out]; simp [hxy]))
            clear hxy
            go_wp2_with fail
            go_quiet ((go_at_call 129; exact quiet_same (specLetter_any _ _ (by omega) (by omega))))
            clear hjt hjw
            go_wp2_with fail
            go_ret
            exact ⟨by rw [hg.out]; rfl, below_drewN HB1.out _⟩
        · go_wp2_with fail
          go_ret
          exact ⟨by rw [hcl.out, allB_true (fun i hi => hall.out i (by omega) hi)]; rfl, HB1.out⟩
    · have HL := Lib.hid (bool_false hls)
      have hcl := Lib.hid (show clauseB n xs = false by unfold clauseB; rw [HN.out, ← clause_eq, HL.out]; simp)
      clear hls
      go_enter Try.func97, Try.ntmps97
      go_wp2_with (first
        | (go_at_call 127; refine (specLetters_any _ _).mono ?_; rintro e w' ⟨rfl, rfl⟩; rw [HN.out])
        | (go_at_call 128; refine (specLits_any _ _ xs _ HS.out HN.out).mono ?_; rintro e w1 ⟨rfl, hb1⟩; rw [HL.out]))
      go_ret
      exact ⟨by rw [hcl.out]; rfl, hb1⟩
  · have hn' := Lib.hid (bool_false hn)
    clear hn
    go_enter Try.func97, Try.ntmps97
    go_wp2_with (go_at_call 127; refine (specLetters_any _ _).mono ?_; rintro e w' ⟨rfl, rfl⟩; rw [hn'.out])
    go_ret
    exact ⟨by rw [show clauseB n xs = false by unfold clauseB; rw [hn'.out, Bool.false_and]]; rfl, Below.refl _ _⟩

end Go.Proofs.Ytljhohacgceojaa
