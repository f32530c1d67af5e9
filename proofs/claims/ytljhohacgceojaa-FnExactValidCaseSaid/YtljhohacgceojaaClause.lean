/-
  Names and clauses, by the program.
-/
import Derived.Test.YtljhohacgceojaaClauseM
import Derived.Test.YtljhohacgceojaaReg
namespace Go.Proofs.Ytljhohacgceojaa
open Go.RowKit

theorem getD_str (s : ByteArray) (k : Nat) (h : k < s.size) : s.data.toList.getD k 0 = s[k] := by
  have h' : k < s.data.toList.length := by simpa using h
  rw [List.getD_eq_getElem?_getD, List.getElem?_eq_getElem h']
  rfl

set_option maxHeartbeats 1000000 in
theorem implIsName_any (s : ByteArray) (w : World) (hs : s.size ≤ maxLen) :
    Calls Try.prog 55 #[.string s] w fun e w' => e = .returned (.bool (nameB s)) ∧ w = w' := by
  have HS := Lib.hid hs
  unfold maxLen at hs
  by_cases hn : inB 1 8 s.size = true
  · have HN := Lib.hid hn
    have hb := inB_iff.1 hn
    go_enter Try.func55, Try.ntmps55
    go_wp2_with (first
      | (go_at_call 99; refine (size_any _ _ HS.out).mono ?_; rintro e w' ⟨rfl, rfl⟩)
      | (go_at_call 98; refine (within_any _ _ _ _).mono ?_; rintro e w' ⟨rfl, rfl⟩))
    clear hn
    go_loop [3] (fun i => ∃ k : Nat, i = .int .i64 k ∧ k ≤ s.size ∧ Hid (∀ j, j < k → smallB (s.data.toList.getD j 0) = true)) (fun i => s.size - (intOf i).toNat)
    case atStart => exact ⟨0, rfl, Nat.zero_le _, fun j hj => by omega⟩
    case round =>
      obtain ⟨k, rfl, hk, hall⟩ := hrel
      by_cases hlt : k < s.size
      · have HG := Lib.hid (getD_str s k hlt)
        by_cases h1 : 97 ≤ s[k].toNat
        · by_cases h2 : s[k].toNat ≤ 122
          · go_wp2
            go_round
            case rel =>
              refine ⟨k + 1, by go_num, by omega, fun j hj => ?_⟩
              by_cases hjk : j < k
              · exact hall.out j hjk
              · obtain rfl : j = k := by omega
                rw [HG.out]; unfold smallB; simp [h1, h2]
            case measure => simp [intOf]; omega
          · go_wp2
            go_ret
            refine ⟨?_, rfl⟩
            rw [show nameB s = false by unfold nameB; rw [allB_false hlt (by rw [HG.out]; unfold smallB; simp; omega), Bool.and_false]]; rfl
        · go_wp2
          go_ret
          refine ⟨?_, rfl⟩
          rw [show nameB s = false by unfold nameB; rw [allB_false hlt (by rw [HG.out]; unfold smallB; simp; omega), Bool.and_false]]; rfl
      · obtain rfl : k = s.size := by omega
        go_wp2
        go_ret
        refine ⟨?_, rfl⟩
        rw [show nameB s = true by unfold nameB; rw [HN.out, Bool.true_and]; exact allB_true hall.out]; rfl
  · have hn' := bool_false hn
    clear hn
    go_enter Try.func55, Try.ntmps55
    go_wp2_with (first
      | (go_at_call 99; refine (size_any _ _ HS.out).mono ?_; rintro e w' ⟨rfl, rfl⟩)
      | (go_at_call 98; refine (within_any _ _ _ _).mono ?_; rintro e w' ⟨rfl, rfl⟩))
    go_ret
    refine ⟨?_, rfl⟩
    rw [show nameB s = false by unfold nameB; rw [hn', Bool.false_and]]; rfl

set_option maxHeartbeats 1000000 in
theorem specIsName_any (s : ByteArray) (w : World) (hs : s.size ≤ maxLen) :
    Calls Try.prog 95 #[.string s] w fun e w' => e = .returned (.bool (nameB s)) ∧ w = w' := by
  unfold maxLen at hs
  go_enter Try.func95, Try.ntmps95
  go_wp2
  go_loop [3] (fun i => ∃ k : Nat, i = .int .i64 k ∧ k ≤ s.size ∧ Hid (∀ j, j < k → smallB (s.data.toList.getD j 0) = true)) (fun i => s.size - (intOf i).toNat)
  case atStart => exact ⟨0, rfl, Nat.zero_le _, fun j hj => by omega⟩
  case round =>
    obtain ⟨k, rfl, hk, hall⟩ := hrel
    by_cases hlt : k < s.size
    · have HG := Lib.hid (getD_str s k hlt)
      by_cases h1 : 97 ≤ s[k].toNat
      · by_cases h2 : s[k].toNat ≤ 122
        · go_wp2
          go_round
          case rel =>
            refine ⟨k + 1, by go_num, by omega, fun j hj => ?_⟩
            by_cases hjk : j < k
            · exact hall.out j hjk
            · obtain rfl : j = k := by omega
              rw [HG.out]; unfold smallB; simp [h1, h2]
          case measure => simp [intOf]; omega
        · go_wp2
          go_ret
          refine ⟨?_, rfl⟩
          rw [show nameB s = false by unfold nameB; rw [allB_false hlt (by rw [HG.out]; unfold smallB; simp; omega), Bool.and_false]]; rfl
      · go_wp2
        go_ret
        refine ⟨?_, rfl⟩
        rw [show nameB s = false by unfold nameB; rw [allB_false hlt (by rw [HG.out]; unfold smallB; simp; omega), Bool.and_false]]; rfl
    · obtain rfl : k = s.size := by omega
      by_cases h1 : 1 ≤ s.size
      · by_cases h8 : s.size ≤ 8
        · go_wp2
          go_ret
          refine ⟨?_, rfl⟩
          rw [show nameB s = true by unfold nameB; rw [inB_true (by omega), Bool.true_and]; exact allB_true hall.out]; first | rfl | (simp; omega)
        · go_wp2
          go_ret
          refine ⟨?_, rfl⟩
          rw [show nameB s = false by unfold nameB; rw [inB_false (by omega), Bool.false_and]]; first | rfl | (simp; omega)
      · go_wp2
        go_ret
        refine ⟨?_, rfl⟩
        rw [show nameB s = false by unfold nameB; rw [inB_false (by omega), Bool.false_and]]; first | rfl | (simp; omega)

set_option maxHeartbeats 400000 in
theorem isLetterCount_any (n : Int) (w : World) :
    Calls Try.prog 100 #[.int .i64 n] w fun e w' => e = .returned (.bool (inB 1 10 n)) ∧ w = w' := by
  go_enter Try.func100, Try.ntmps100
  go_wp2_with (go_at_call 98; refine (within_any _ _ _ _).mono ?_; rintro e w' ⟨rfl, rfl⟩)
  go_ret
  exact ⟨rfl, rfl⟩

set_option maxHeartbeats 400000 in
theorem isLiteral_any (n x : Int) (w : World) (hn : 1 ≤ n) (hn2 : n ≤ 10) :
    Calls Try.prog 101 #[.int .i64 n, .int .i64 x] w fun e w' => e = .returned (.bool (litB n x)) ∧ w = w' := by
  by_cases hx : x = 0
  · subst hx
    go_enter Try.func101, Try.ntmps101
    go_wp2_with fail
    go_ret
    exact ⟨rfl, rfl⟩
  · have h0 : (x != 0) = true := by simp [hx]
    have h1 := Lib.hid (show decide (x ≠ 0) = true by simp [hx])
    clear hx
    go_enter Try.func101, Try.ntmps101
    go_wp2_with (go_at_call 98; refine (within_any _ _ _ _).mono ?_; rintro e w' ⟨rfl, rfl⟩)
    go_ret
    exact ⟨by unfold litB; rw [h1.out]; simp, rfl⟩

set_option maxHeartbeats 400000 in
theorem letterOf_any (x : Int) (w : World) (h1 : -10 ≤ x) (h2 : x ≤ 10) :
    Calls Try.prog 102 #[.int .i64 x] w fun e w' => e = .returned (.int .i64 (x.natAbs : Nat)) ∧ w = w' := by
  go_enter Try.func102, Try.ntmps102
  go_wp2_with fail
  all_goals
    go_ret
    exact ⟨congrArg (fun z => Ending.returned (Value.int IntKind.i64 z)) (by omega), rfl⟩

set_option maxHeartbeats 2000000 in
theorem implClause_any (n : Int) (v : Value) (xs : List Int) (w : World) (h : RdI w v xs) :
    Calls Try.prog 57 #[.int .i64 n, v] w fun e w' => e = .returned (.bool (clauseB n xs)) ∧ w = w' := by
  obtain ⟨a, c, rfl⟩ := h.shape
  have hl := h.len
  unfold maxLen at hl
  have HS := Lib.hid h
  clear h
  by_cases hn : inB 1 10 n = true
  · have HN := Lib.hid hn
    obtain ⟨n1, n2⟩ := inB_iff.1 hn
    go_enter Try.func57, Try.ntmps57
    go_wp2_with (go_at_call 100; refine (isLetterCount_any _ _).mono ?_; rintro e w' ⟨rfl, rfl⟩)
    clear hn
    go_loop [12] (fun i => ∃ k : Nat, i = .int .i64 k ∧ k ≤ xs.length ∧ Hid (∀ j, j < k → okAt n xs j = true)) (fun i => xs.length - (intOf i).toNat)
    case atStart => exact ⟨0, rfl, Nat.zero_le _, fun j hj => by omega⟩
    case round =>
      obtain ⟨k, rfl, hk, hall⟩ := hrel
      by_cases hlt : k < xs.length
      · obtain ⟨b, off, rfl, hb0, hc⟩ := HS.out.at hlt
        have hno := Lib.hid (show okAt n xs k = false → clauseB n xs = false from fun h => by unfold clauseB; rw [allB_false hlt h, Bool.and_false])
        have hok := Lib.hid (show okAt n xs k = true → ∀ j, j < k + 1 → okAt n xs j = true from fun h j hj => by
          by_cases hjk : j < k
          · exact hall.out j hjk
          · obtain rfl : j = k := by omega
            exact h)
        by_cases hlit : litB n (xs.getD k 0) = true
        · obtain ⟨x1, x2, x3⟩ := litB_bd HN.out hlit
          rcases Nat.eq_zero_or_pos k with hk0 | h0
          · have hg := Lib.hid (hok.out (by unfold okAt; rw [hlit]; simp [hk0]))
            replace hk0 : (k : Int) ≤ 0 := by omega
            generalize xs.getD k 0 = x at *
            go_wp2_with (first
              | (go_at_call 101; refine (isLiteral_any _ _ _ n1 n2).mono ?_; rintro e w' ⟨rfl, rfl⟩)
              | (go_at_call 102; refine (letterOf_any _ _ (by omega) (by omega)).mono ?_; rintro e w' ⟨rfl, rfl⟩))
            go_round
            case rel => exact ⟨k + 1, by go_num, by omega, hg.out⟩
            case measure => simp [intOf]; omega
          · have hp := hall.out (k - 1) (by omega)
            have hpl : litB n (xs.getD (k - 1) 0) = true := by unfold okAt at hp; rw [Bool.and_eq_true] at hp; exact hp.1
            obtain ⟨y1, y2, y3⟩ := litB_bd HN.out hpl
            obtain ⟨_, _, e, _, hc2⟩ := HS.out.at (i := k - 1) (by omega)
            simp only [Option.some.injEq, Addr.mk.injEq, and_true] at e
            obtain ⟨rfl, rfl⟩ := e
            have hval := Lib.hid (show okAt n xs k = decide ((xs.getD (k - 1) 0).natAbs < (xs.getD k 0).natAbs) by unfold okAt; rw [hlit]; simp; intro h; omega)
            have hjm : (k : Int) - 1 < xs.length := by omega
            have hjm0 : (0 : Int) ≤ (k : Int) - 1 := by omega
            have hjt : ((k : Int) - 1).toNat = k - 1 := by omega
            clear hp hpl
            generalize xs.getD k 0 = x at *
            generalize xs.getD (k - 1) 0 = y at *
            by_cases hxy : y.natAbs < x.natAbs
            · have hxd : decide (x.natAbs ≤ y.natAbs) = false := by simp; omega
              have hg := Lib.hid (hok.out (by rw [hval.out]; simp [hxy]))
              clear hxy
              go_wp2_with (first
                | (go_at_call 101; refine (isLiteral_any _ _ _ n1 n2).mono ?_; rintro e w' ⟨rfl, rfl⟩)
                | (go_at_call 102; refine (letterOf_any _ _ (by omega) (by omega)).mono ?_; rintro e w' ⟨rfl, rfl⟩))
              clear hjt
              go_round
              case rel => exact ⟨k + 1, by go_num, by omega, hg.out⟩
              case measure => simp [intOf]; omega
            · have hxd : decide (x.natAbs ≤ y.natAbs) = true := by simp; omega
              have hg := Lib.hid (hno.out (by rw [hval.out]; simp [hxy]))
              clear hxy
              go_wp2_with (first
                | (go_at_call 101; refine (isLiteral_any _ _ _ n1 n2).mono ?_; rintro e w' ⟨rfl, rfl⟩)
                | (go_at_call 102; refine (letterOf_any _ _ (by omega) (by omega)).mono ?_; rintro e w' ⟨rfl, rfl⟩))
              go_ret
              exact ⟨by rw [hg.out]; rfl, rfl⟩
        · have hlf := bool_false hlit
          have hg := Lib.hid (hno.out (by unfold okAt; rw [hlf, Bool.false_and]))
          clear hlit
          generalize xs.getD k 0 = x at *
          go_wp2_with (go_at_call 101; refine (isLiteral_any _ _ _ n1 n2).mono ?_; rintro e w' ⟨rfl, rfl⟩)
          go_ret
          exact ⟨by rw [hg.out]; rfl, rfl⟩
      · obtain rfl : k = xs.length := by omega
        go_wp2_with fail
        go_ret
        exact ⟨by rw [show clauseB n xs = true by unfold clauseB; rw [HN.out, Bool.true_and]; exact allB_true hall.out]; rfl, rfl⟩
  · have hn' := bool_false hn
    clear hn
    go_enter Try.func57, Try.ntmps57
    go_wp2_with (go_at_call 100; refine (isLetterCount_any _ _).mono ?_; rintro e w' ⟨rfl, rfl⟩)
    go_ret
    exact ⟨by rw [show clauseB n xs = false by unfold clauseB; rw [hn', Bool.false_and]]; rfl, rfl⟩

end Go.Proofs.Ytljhohacgceojaa
