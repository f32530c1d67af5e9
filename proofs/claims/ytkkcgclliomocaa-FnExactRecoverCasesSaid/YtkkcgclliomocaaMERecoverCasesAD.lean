/-
  FnExactRecoverCases: texts joined: Clause, CaseV, StoreM, Check.
-/
import Derived.Lib.AppendStr
import Derived.Laws.BytesArg
import Derived.Lib.SlBytesConst
import Derived.ArgAppend
import Derived.Test.YtkkcgclliomocaaMERecoverCasesAB
import Derived.Test.YtkkcgclliomocaaMERecoverCasesAC
namespace Go.Proofs.Ytkkcgclliomocaa
open Go.RowKit

theorem getD_str (s : ByteArray) (k : Nat) (h : k < s.size) : s.data.toList.getD k 0 = s[k] := by
  have h' : k < s.data.toList.length := by simpa using h
  rw [List.getD_eq_getElem?_getD, List.getElem?_eq_getElem h']
  rfl

set_option maxHeartbeats 1000000 in
theorem implIsName_any (s : ByteArray) (w : World) (hs : s.size ≤ maxLen) :
    Calls Try.prog 55 #[.string s] w fun e w' => e = .returned (.bool (nameB s)) ∧ w = w' := by
  have HS := Lib.hid hs
  unfold maxLen at hs
  by_cases hn : inB 1 8 s.size = true
  · have HN := Lib.hid hn
    have hb := inB_iff.1 hn
    go_enter Try.func55, Try.ntmps55
    go_wp2_with (first
      | (go_at_call 97; refine (size_any _ _ HS.out).mono ?_; rintro e w' ⟨rfl, rfl⟩)
      | (go_at_call 106; refine (within_any _ _ _ _).mono ?_; rintro e w' ⟨rfl, rfl⟩))
    clear hn
    go_loop [3] (fun i => ∃ k : Nat, i = .int .i64 k ∧ k ≤ s.size ∧ Hid (∀ j, j < k → smallB (s.data.toList.getD j 0) = true)) (fun i => s.size - (intOf i).toNat)
    case atStart => exact ⟨0, rfl, Nat.zero_le _, fun j hj => by omega⟩
    case round =>
      obtain ⟨k, rfl, hk, hall⟩ := hrel
      by_cases hlt : k < s.size
      · have HG := Lib.hid (getD_str s k hlt)
        by_cases h1 : 97 ≤ s[k].toNat
        · by_cases h2 : s[k].toNat ≤ 122
          · go_wp2
            go_round
            case rel =>
              refine ⟨k + 1, by go_num, by omega, fun j hj => ?_⟩
              by_cases hjk : j < k
              · exact hall.out j hjk
              · obtain rfl : j = k := by omega
                rw [HG.out]; unfold smallB; simp [h1, h2]
            case measure => simp [intOf]; omega
          · go_wp2
            go_ret
            refine ⟨?_, rfl⟩
            rw [show nameB s = false by unfold nameB; rw [allB_false hlt (by rw [HG.out]; unfold smallB; simp; omega), Bool.and_false]]; rfl
        · go_wp2
          go_ret
          refine ⟨?_, rfl⟩
          rw [show nameB s = false by unfold nameB; rw [allB_false hlt (by rw [HG.out]; unfold smallB; simp; omega), Bool.and_false]]; rfl
      · obtain rfl : k = s.size := by omega
        go_wp2
        go_ret
        refine ⟨?_, rfl⟩
        rw [show nameB s = true by unfold nameB; rw [HN.out, Bool.true_and]; exact allB_true hall.out]; rfl
  · have hn' := bool_false hn
    clear hn
    go_enter Try.func55, Try.ntmps55
    go_wp2_with (first
      | (go_at_call 97; refine (size_any _ _ HS.out).mono ?_; rintro e w' ⟨rfl, rfl⟩)
      | (go_at_call 106; refine (within_any _ _ _ _).mono ?_; rintro e w' ⟨rfl, rfl⟩))
    go_ret
    refine ⟨?_, rfl⟩
    rw [show nameB s = false by unfold nameB; rw [hn', Bool.false_and]]; rfl

set_option maxHeartbeats 1000000 in
theorem specIsName_any (s : ByteArray) (w : World) (hs : s.size ≤ maxLen) :
    Calls Try.prog 128 #[.string s] w fun e w' => e = .returned (.bool (nameB s)) ∧ w = w' := by
  unfold maxLen at hs
  go_enter Try.func128, Try.ntmps128
  go_wp2
  go_loop [3] (fun i => ∃ k : Nat, i = .int .i64 k ∧ k ≤ s.size ∧ Hid (∀ j, j < k → smallB (s.data.toList.getD j 0) = true)) (fun i => s.size - (intOf i).toNat)
  case atStart => exact ⟨0, rfl, Nat.zero_le _, fun j hj => by omega⟩
  case round =>
    obtain ⟨k, rfl, hk, hall⟩ := hrel
    by_cases hlt : k < s.size
    · have HG := Lib.hid (getD_str s k hlt)
      by_cases h1 : 97 ≤ s[k].toNat
      · by_cases h2 : s[k].toNat ≤ 122
        · go_wp2
          go_round
          case rel =>
            refine ⟨k + 1, by go_num, by omega, fun j hj => ?_⟩
            by_cases hjk : j < k
            · exact hall.out j hjk
            · obtain rfl : j = k := by omega
              rw [HG.out]; unfold smallB; simp [h1, h2]
          case measure => simp [intOf]; omega
        · go_wp2
          go_ret
          refine ⟨?_, rfl⟩
          rw [show nameB s = false by unfold nameB; rw [allB_false hlt (by rw [HG.out]; unfold smallB; simp; omega), Bool.and_false]]; rfl
      · go_wp2
        go_ret
        refine ⟨?_, rfl⟩
        rw [show nameB s = false by unfold nameB; rw [allB_false hlt (by rw [HG.out]; unfold smallB; simp; omega), Bool.and_false]]; rfl
    · obtain rfl : k = s.size := by omega
      by_cases h1 : 1 ≤ s.size
      · by_cases h8 : s.size ≤ 8
        · go_wp2
          go_ret
          refine ⟨?_, rfl⟩
          rw [show nameB s = true by unfold nameB; rw [inB_true (by omega), Bool.true_and]; exact allB_true hall.out]; first | rfl | (simp; omega)
        · go_wp2
          go_ret
          refine ⟨?_, rfl⟩
          rw [show nameB s = false by unfold nameB; rw [inB_false (by omega), Bool.false_and]]; first | rfl | (simp; omega)
      · go_wp2
        go_ret
        refine ⟨?_, rfl⟩
        rw [show nameB s = false by unfold nameB; rw [inB_false (by omega), Bool.false_and]]; first | rfl | (simp; omega)

set_option maxHeartbeats 400000 in
theorem isLetterCount_any (n : Int) (w : World) :
    Calls Try.prog 107 #[.int .i64 n] w fun e w' => e = .returned (.bool (inB 1 10 n)) ∧ w = w' := by
  go_enter Try.func107, Try.ntmps107
  go_wp2_with (go_at_call 106; refine (within_any _ _ _ _).mono ?_; rintro e w' ⟨rfl, rfl⟩)
  go_ret
  exact ⟨rfl, rfl⟩

set_option maxHeartbeats 400000 in
theorem isLiteral_any (n x : Int) (w : World) (hn : 1 ≤ n) (hn2 : n ≤ 10) :
    Calls Try.prog 108 #[.int .i64 n, .int .i64 x] w fun e w' => e = .returned (.bool (litB n x)) ∧ w = w' := by
  by_cases hx : x = 0
  · subst hx
    go_enter Try.func108, Try.ntmps108
    go_wp2_with fail
    go_ret
    exact ⟨rfl, rfl⟩
  · have h0 : (x != 0) = true := by simp [hx]
    have h1 := Lib.hid (show decide (x ≠ 0) = true by simp [hx])
    clear hx
    go_enter Try.func108, Try.ntmps108
    go_wp2_with (go_at_call 106; refine (within_any _ _ _ _).mono ?_; rintro e w' ⟨rfl, rfl⟩)
    go_ret
    exact ⟨by unfold litB; rw [h1.out]; simp, rfl⟩

set_option maxHeartbeats 400000 in
theorem letterOf_any (x : Int) (w : World) (h1 : -10 ≤ x) (h2 : x ≤ 10) :
    Calls Try.prog 109 #[.int .i64 x] w fun e w' => e = .returned (.int .i64 (x.natAbs : Nat)) ∧ w = w' := by
  go_enter Try.func109, Try.ntmps109
  go_wp2_with fail
  all_goals
    go_ret
    exact ⟨congrArg (fun z => Ending.returned (Value.int IntKind.i64 z)) (by omega), rfl⟩

set_option maxHeartbeats 2000000 in
theorem implClause_any (n : Int) (v : Value) (xs : List Int) (w : World) (h : RdI w v xs) :
    Calls Try.prog 57 #[.int .i64 n, v] w fun e w' => e = .returned (.bool (clauseB n xs)) ∧ w = w' := by
  obtain ⟨a, c, rfl⟩ := h.shape
  have hl := h.len
  unfold maxLen at hl
  have HS := Lib.hid h
  clear h
  by_cases hn : inB 1 10 n = true
  · have HN := Lib.hid hn
    obtain ⟨n1, n2⟩ := inB_iff.1 hn
    go_enter Try.func57, Try.ntmps57
    go_wp2_with (go_at_call 107; refine (isLetterCount_any _ _).mono ?_; rintro e w' ⟨rfl, rfl⟩)
    clear hn
    go_loop [12] (fun i => ∃ k : Nat, i = .int .i64 k ∧ k ≤ xs.length ∧ Hid (∀ j, j < k → okAt n xs j = true)) (fun i => xs.length - (intOf i).toNat)
    case atStart => exact ⟨0, rfl, Nat.zero_le _, fun j hj => by omega⟩
    case round =>
      obtain ⟨k, rfl, hk, hall⟩ := hrel
      by_cases hlt : k < xs.length
      · obtain ⟨b, off, rfl, hb0, hc⟩ := HS.out.at hlt
        have hno := Lib.hid (show okAt n xs k = false → clauseB n xs = false from fun h => by unfold clauseB; rw [allB_false hlt h, Bool.and_false])
        have hok := Lib.hid (show okAt n xs k = true → ∀ j, j < k + 1 → okAt n xs j = true from fun h j hj => by
          by_cases hjk : j < k
          · exact hall.out j hjk
          · obtain rfl : j = k := by omega
            exact h)
        by_cases hlit : litB n (xs.getD k 0) = true
        · obtain ⟨x1, x2, x3⟩ := litB_bd HN.out hlit
          rcases Nat.eq_zero_or_pos k with hk0 | h0
          · have hg := Lib.hid (hok.out (by unfold okAt; rw [hlit]; simp [hk0]))
            replace hk0 : (k : Int) ≤ 0 := by omega
            generalize xs.getD k 0 = x at *
            go_wp2_with (first
              | (go_at_call 108; refine (isLiteral_any _ _ _ n1 n2).mono ?_; rintro e w' ⟨rfl, rfl⟩)
              | (go_at_call 109; refine (letterOf_any _ _ (by omega) (by omega)).mono ?_; rintro e w' ⟨rfl, rfl⟩))
            go_round
            case rel => exact ⟨k + 1, by go_num, by omega, hg.out⟩
            case measure => simp [intOf]; omega
          · have hp := hall.out (k - 1) (by omega)
            have hpl : litB n (xs.getD (k - 1) 0) = true := by unfold okAt at hp; rw [Bool.and_eq_true] at hp; exact hp.1
            obtain ⟨y1, y2, y3⟩ := litB_bd HN.out hpl
            obtain ⟨_, _, e, _, hc2⟩ := HS.out.at (i := k - 1) (by omega)
            simp only [Option.some.injEq, Addr.mk.injEq, and_true] at e
            obtain ⟨rfl, rfl⟩ := e
            have hval := Lib.hid (show okAt n xs k = decide ((xs.getD (k - 1) 0).natAbs < (xs.getD k 0).natAbs) by unfold okAt; rw [hlit]; simp; intro h; omega)
            have hjm : (k : Int) - 1 < xs.length := by omega
            have hjm0 : (0 : Int) ≤ (k : Int) - 1 := by omega
            have hjt : ((k : Int) - 1).toNat = k - 1 := by omega
            clear hp hpl
            generalize xs.getD k 0 = x at *
            generalize xs.getD (k - 1) 0 = y at *
            by_cases hxy : y.natAbs < x.natAbs
            · have hxd : decide (x.natAbs ≤ y.natAbs) = false := by simp; omega
              have hg := Lib.hid (hok.out (by rw [hval.out]; simp [hxy]))
              clear hxy
              go_wp2_with (first
                | (go_at_call 108; refine (isLiteral_any _ _ _ n1 n2).mono ?_; rintro e w' ⟨rfl, rfl⟩)
                | (go_at_call 109; refine (letterOf_any _ _ (by omega) (by omega)).mono ?_; rintro e w' ⟨rfl, rfl⟩))
              clear hjt
              go_round
              case rel => exact ⟨k + 1, by go_num, by omega, hg.out⟩
              case measure => simp [intOf]; omega
            · have hxd : decide (x.natAbs ≤ y.natAbs) = true := by simp; omega
              have hg := Lib.hid (hno.out (by rw [hval.out]; simp [hxy]))
              clear hxy
              go_wp2_with (first
                | (go_at_call 108; refine (isLiteral_any _ _ _ n1 n2).mono ?_; rintro e w' ⟨rfl, rfl⟩)
                | (go_at_call 109; refine (letterOf_any _ _ (by omega) (by omega)).mono ?_; rintro e w' ⟨rfl, rfl⟩))
              go_ret
              exact ⟨by rw [hg.out]; rfl, rfl⟩
        · have hlf := bool_false hlit
          have hg := Lib.hid (hno.out (by unfold okAt; rw [hlf, Bool.false_and]))
          clear hlit
          generalize xs.getD k 0 = x at *
          go_wp2_with (go_at_call 108; refine (isLiteral_any _ _ _ n1 n2).mono ?_; rintro e w' ⟨rfl, rfl⟩)
          go_ret
          exact ⟨by rw [hg.out]; rfl, rfl⟩
      · obtain rfl : k = xs.length := by omega
        go_wp2_with fail
        go_ret
        exact ⟨by rw [show clauseB n xs = true by unfold clauseB; rw [HN.out, Bool.true_and]; exact allB_true hall.out]; rfl, rfl⟩
  · have hn' := bool_false hn
    clear hn
    go_enter Try.func57, Try.ntmps57
    go_wp2_with (go_at_call 107; refine (isLetterCount_any _ _).mono ?_; rintro e w' ⟨rfl, rfl⟩)
    go_ret
    exact ⟨by rw [show clauseB n xs = false by unfold clauseB; rw [hn', Bool.false_and]]; rfl, rfl⟩

end Go.Proofs.Ytkkcgclliomocaa

namespace Go.Proofs.Ytkkcgclliomocaa
open Go.RowKit

set_option maxHeartbeats 2000000 in
theorem implValidForm_any (v : Value) (f : FormD) (w : World) (h : RdFm w v f) :
    Calls Try.prog 56 #[v] w fun e w' => e = .returned (.bool (formB f)) ∧ Below w.heap.size w w' := by
  obtain ⟨a, c, rfl⟩ := h.shape
  have p := h.parts
  obtain ⟨n, xs⟩ := f
  simp only at p ⊢
  have hl := p.len
  unfold maxLen at hl
  have HS := Lib.hid p
  clear h p
  by_cases hn : inB 1 10 n = true
  · have HN := Lib.hid hn
    clear hn
    by_cases h48 : xs.length ≤ 48
    · go_enter Try.func56, Try.ntmps56
      go_wp2_with (go_at_call 107; refine (isLetterCount_any _ _).mono ?_; rintro e w' ⟨rfl, rfl⟩; rw [HN.out])
      refine wp_at fun W hW => ?_
      have HB := Lib.hid (show Below w.heap.size w W by subst hW; (repeat' first | exact Below.refl _ _ | assumption | refine Below.alloc ?_ ?_ _ | refine Below.setCell ?_ ?_ _ | refine Below.drew ?_ | (simp; done) | (simp; omega)))
      have d0 : W.cell? ⟨w.heap.size, 0, none⟩ = some (.int .i64 n) := by subst hW; exact (Blk.new w 31 #[.int .i64 n, .slice a xs.length c]).cell 0 rfl
      clear hW
      go_loop [18] (fun i => ∃ k : Nat, i = .int .i64 k ∧ k ≤ xs.length ∧ Hid (∀ j, j < k → clauseB n (xs.getD j []) = true)) (fun i => xs.length - (intOf i).toNat)
      case atStart => exact ⟨0, rfl, Nat.zero_le _, fun j hj => by omega⟩
      case round =>
        obtain ⟨k, rfl, hk, hall⟩ := hrel
        by_cases hlt : k < xs.length
        · obtain ⟨b, off, u, rfl, hb0, hc, hu⟩ := (HS.out.up HB.out (Nat.le_refl _)).at hlt
          have HU := Lib.hid hu
          have hno := Lib.hid (show clauseB n (xs.getD k []) = false → formB ⟨n, xs⟩ = false from fun h => by unfold formB; rw [allB_false hlt h, Bool.and_false])
          have hok := Lib.hid (show clauseB n (xs.getD k []) = true → ∀ j, j < k + 1 → clauseB n (xs.getD j []) = true from fun h j hj => by
            by_cases hjk : j < k
            · exact hall.out j hjk
            · obtain rfl : j = k := by omega
              exact h)
          clear hu
          cases hq : clauseB n (xs.getD k [])
          · have hg := Lib.hid (hno.out hq)
            have HQ := Lib.hid hq
            clear hq
            go_wp2_with (go_at_call 57; refine (implClause_any _ _ _ _ HU.out).mono ?_; rintro e w' ⟨rfl, rfl⟩; rw [HQ.out])
            go_ret
            exact ⟨by rw [hg.out]; rfl, HB.out⟩
          · have hg := Lib.hid (hok.out hq)
            have HQ := Lib.hid hq
            clear hq
            go_wp2_with (go_at_call 57; refine (implClause_any _ _ _ _ HU.out).mono ?_; rintro e w' ⟨rfl, rfl⟩; rw [HQ.out])
            go_round
            case rel => exact ⟨k + 1, by go_num, by omega, hg.out⟩
            case measure => simp [intOf]; omega
        · obtain rfl : k = xs.length := by omega
          go_wp2_with fail
          go_ret
          exact ⟨by rw [show formB ⟨n, xs⟩ = true by unfold formB; simp only [HN.out, Bool.true_and]; rw [allB_true hall.out]; simp [h48]]; rfl, HB.out⟩
    · go_enter Try.func56, Try.ntmps56
      go_wp2_with (go_at_call 107; refine (isLetterCount_any _ _).mono ?_; rintro e w' ⟨rfl, rfl⟩; rw [HN.out])
      go_ret
      refine ⟨by rw [show formB ⟨n, xs⟩ = false by unfold formB; simp only [h48, decide_false, Bool.and_false, Bool.false_and]]; rfl, ?_⟩
      (repeat' first | exact Below.refl _ _ | assumption | refine Below.alloc ?_ ?_ _ | refine Below.setCell ?_ ?_ _ | refine Below.drew ?_ | (simp; done) | (simp; omega))
  · have HN := Lib.hid (bool_false hn)
    clear hn
    go_enter Try.func56, Try.ntmps56
    go_wp2_with (go_at_call 107; refine (isLetterCount_any _ _).mono ?_; rintro e w' ⟨rfl, rfl⟩; rw [HN.out])
    go_ret
    refine ⟨by rw [show formB ⟨n, xs⟩ = false by unfold formB; simp only [HN.out, Bool.false_and]]; rfl, ?_⟩
    (repeat' first | exact Below.refl _ _ | assumption | refine Below.alloc ?_ ?_ _ | refine Below.setCell ?_ ?_ _ | refine Below.drew ?_ | (simp; done) | (simp; omega))

set_option maxHeartbeats 2000000 in
theorem implValidCase_any (v : Value) (d : CaseD) (w : World) (h : RdCs w v d) :
    Calls Try.prog 13 #[v] w fun e w' => e = .returned (.bool (caseB d)) ∧ Below w.heap.size w w' := by
  obtain ⟨a1, c1, a2, c2, rfl⟩ := h.shape
  obtain ⟨p, q, hns⟩ := h.parts
  obtain ⟨nm, f, xs⟩ := d
  simp only at p q hns ⊢
  have hl := q.len
  unfold maxLen at hl
  have HF := Lib.hid p
  have HS := Lib.hid q
  have HNS := Lib.hid hns
  clear h p q hns
  by_cases hn : nameB nm = true
  · have HN := Lib.hid hn
    clear hn
    by_cases hf : formB f = true
    · have HFB := Lib.hid hf
      clear hf
      by_cases h128 : xs.length ≤ 128
      · go_enter Try.func13, Try.ntmps13
        go_wp2_with (go_at_call 55; refine (implIsName_any _ _ HNS.out).mono ?_; rintro e w' ⟨rfl, rfl⟩; rw [HN.out])
        refine Calls.at fun W hW => ?_
        have hb := show Below w.heap.size w W by subst hW; (repeat' first | exact Below.refl _ _ | assumption | refine Below.alloc ?_ ?_ _ | refine Below.setCell ?_ ?_ _ | refine Below.drew ?_ | (simp; done) | (simp; omega))
        have hk := show Blk W w.heap.size 33 #[.string nm, .int .i64 f.letters, .slice a1 f.clauses.length c1, .slice a2 xs.length c2] by subst hW; exact Blk.new _ _ _
        clear hW
        refine (implValidForm_any _ f W (HF.out.up hb (Nat.le_refl _))).mono ?_
        rintro e w1 ⟨rfl, hb1⟩
        rw [HFB.out]
        have HB := Lib.hid (hb.trans (hb1.mono hb.size))
        have hk1 := hk.below hb1 hk.lt
        have d1 : w1.cell? ⟨w.heap.size, 1, none⟩ = some (.int .i64 f.letters) := hk1.cell 1 rfl
        have d3 : w1.cell? ⟨w.heap.size, 3, none⟩ = some (.slice a2 xs.length c2) := hk1.cell 3 rfl
        clear hb hk hb1 hk1
        go_wp2_with fail
        go_loop [24] (fun i => ∃ k : Nat, i = .int .i64 k ∧ k ≤ xs.length ∧ Hid (∀ j, j < k → clauseB f.letters (xs.getD j []) = true)) (fun i => xs.length - (intOf i).toNat)
        case atStart => exact ⟨0, rfl, Nat.zero_le _, fun j hj => by omega⟩
        case round =>
          obtain ⟨k, rfl, hk, hall⟩ := hrel
          by_cases hlt : k < xs.length
          · obtain ⟨b, off, u, rfl, hb0, hc, hu⟩ := (HS.out.up HB.out (Nat.le_refl _)).at hlt
            have HU := Lib.hid hu
            have hno := Lib.hid (show clauseB f.letters (xs.getD k []) = false → caseB ⟨nm, f, xs⟩ = false from fun h => by unfold caseB; rw [allB_false hlt h, Bool.and_false])
            have hok := Lib.hid (show clauseB f.letters (xs.getD k []) = true → ∀ j, j < k + 1 → clauseB f.letters (xs.getD j []) = true from fun h j hj => by
              by_cases hjk : j < k
              · exact hall.out j hjk
              · obtain rfl : j = k := by omega
                exact h)
            clear hu
            cases hq : clauseB f.letters (xs.getD k [])
            · have hg := Lib.hid (hno.out hq)
              have HQ := Lib.hid hq
              clear hq
              go_wp2_with (go_at_call 57; refine (implClause_any _ _ _ _ HU.out).mono ?_; rintro e w' ⟨rfl, rfl⟩; rw [HQ.out])
              go_ret
              exact ⟨by rw [hg.out]; rfl, HB.out⟩
            · have hg := Lib.hid (hok.out hq)
              have HQ := Lib.hid hq
              clear hq
              go_wp2_with (go_at_call 57; refine (implClause_any _ _ _ _ HU.out).mono ?_; rintro e w' ⟨rfl, rfl⟩; rw [HQ.out])
              go_round
              case rel => exact ⟨k + 1, by go_num, by omega, hg.out⟩
              case measure => simp [intOf]; omega
          · obtain rfl : k = xs.length := by omega
            go_wp2_with fail
            go_ret
            exact ⟨by rw [show caseB ⟨nm, f, xs⟩ = true by unfold caseB; simp only [HN.out, HFB.out, Bool.true_and]; rw [allB_true hall.out]; simp [h128]]; rfl, HB.out⟩
      · go_enter Try.func13, Try.ntmps13
        go_wp2_with (go_at_call 55; refine (implIsName_any _ _ HNS.out).mono ?_; rintro e w' ⟨rfl, rfl⟩; rw [HN.out])
        refine Calls.at fun W hW => ?_
        have hb := show Below w.heap.size w W by subst hW; (repeat' first | exact Below.refl _ _ | assumption | refine Below.alloc ?_ ?_ _ | refine Below.setCell ?_ ?_ _ | refine Below.drew ?_ | (simp; done) | (simp; omega))
        have hk := show Blk W w.heap.size 33 #[.string nm, .int .i64 f.letters, .slice a1 f.clauses.length c1, .slice a2 xs.length c2] by subst hW; exact Blk.new _ _ _
        clear hW
        refine (implValidForm_any _ f W (HF.out.up hb (Nat.le_refl _))).mono ?_
        rintro e w1 ⟨rfl, hb1⟩
        rw [HFB.out]
        have HB := Lib.hid (hb.trans (hb1.mono hb.size))
        have hk1 := hk.below hb1 hk.lt
        have d3 : w1.cell? ⟨w.heap.size, 3, none⟩ = some (.slice a2 xs.length c2) := hk1.cell 3 rfl
        clear hb hk hb1 hk1
        go_wp2_with fail
        go_ret
        exact ⟨by rw [show caseB ⟨nm, f, xs⟩ = false by unfold caseB; simp only [h128, decide_false, Bool.and_false, Bool.false_and]]; rfl, HB.out⟩
    · have HFB := Lib.hid (bool_false hf)
      clear hf
      go_enter Try.func13, Try.ntmps13
      go_wp2_with (go_at_call 55; refine (implIsName_any _ _ HNS.out).mono ?_; rintro e w' ⟨rfl, rfl⟩; rw [HN.out])
      refine Calls.at fun W hW => ?_
      have hb := show Below w.heap.size w W by subst hW; (repeat' first | exact Below.refl _ _ | assumption | refine Below.alloc ?_ ?_ _ | refine Below.setCell ?_ ?_ _ | refine Below.drew ?_ | (simp; done) | (simp; omega))
      clear hW
      refine (implValidForm_any _ f W (HF.out.up hb (Nat.le_refl _))).mono ?_
      rintro e w1 ⟨rfl, hb1⟩
      rw [HFB.out]
      have HB := Lib.hid (hb.trans (hb1.mono hb.size))
      clear hb hb1
      go_wp2_with fail
      go_ret
      exact ⟨by rw [show caseB ⟨nm, f, xs⟩ = false by unfold caseB; simp only [HFB.out, Bool.and_false, Bool.false_and]]; rfl, HB.out⟩
  · have HN := Lib.hid (bool_false hn)
    clear hn
    go_enter Try.func13, Try.ntmps13
    go_wp2_with (go_at_call 55; refine (implIsName_any _ _ HNS.out).mono ?_; rintro e w' ⟨rfl, rfl⟩; rw [HN.out])
    go_ret
    refine ⟨by rw [show caseB ⟨nm, f, xs⟩ = false by unfold caseB; simp only [HN.out, Bool.false_and]]; rfl, ?_⟩
    (repeat' first | exact Below.refl _ _ | assumption | refine Below.alloc ?_ ?_ _ | refine Below.setCell ?_ ?_ _ | refine Below.drew ?_ | (simp; done) | (simp; omega))

end Go.Proofs.Ytkkcgclliomocaa

namespace Go.Proofs.Ytkkcgclliomocaa
open Go.RowKit

def by8 (n : Int) : Int := IntKind.u8.wrap n
theorem by8_eq (n : Int) : by8 n = n % 256 := by unfold by8; rw [IntKind.wrap_u8]
def bytesOf (s : ByteArray) : List Int := s.data.toList.map fun b => (b.toNat : Int)
theorem bytesOf_len (s : ByteArray) : (bytesOf s).length = s.size := by unfold bytesOf; rw [List.length_map, Array.length_toList]; rfl
theorem strCells_bytes (s : ByteArray) : Lib.strCells s = (bytesOf s).map B8 := by unfold Lib.strCells bytesOf; rw [List.map_map]; rfl
def clauseBytes (c : List Int) : List Int := by8 c.length :: c.map by8
def clausesBytes (L : List (List Int)) : List Int := L.flatMap clauseBytes
def headBytes (c : CaseD) : List Int := [67, 65, 83, 49] ++ [by8 c.name.size] ++ bytesOf c.name ++ [by8 c.form.letters, by8 c.form.clauses.length, by8 c.proof.length]
def bodyBytes (c : CaseD) : List Int := headBytes c ++ clausesBytes (c.form.clauses ++ c.proof)
def chkL (a : Int) (l : List Int) : Int := l.foldl (fun a b => (907 * a + b + 179) % 65003) a
def storeBytes (c : CaseD) : List Int := bodyBytes c ++ [by8 (chkL 0 (bodyBytes c)), by8 (chkL 0 (bodyBytes c) / 256)]
def storeS (c : CaseD) : ByteArray := strOfNums (storeBytes c)

theorem chkL_bd : ∀ (l : List Int) (a : Int), 0 ≤ a → a < 65003 → 0 ≤ chkL a l ∧ chkL a l < 65003
  | [], a, h0, h1 => ⟨h0, h1⟩
  | b :: r, a, h0, h1 => by
    show 0 ≤ chkL ((907 * a + b + 179) % 65003) r ∧ _
    exact chkL_bd r _ (by omega) (by omega)
theorem chkL_snoc (a : Int) (l : List Int) (b : Int) : chkL a (l ++ [b]) = (907 * chkL a l + b + 179) % 65003 := by simp [chkL]

/-- A clause that is one has at most ten literals. -/
theorem clause_len {n : Int} {xs : List Int} (h : clauseB n xs = true) : xs.length ≤ 10 := by
  unfold clauseB at h
  simp only [Bool.and_eq_true] at h
  obtain ⟨hn, hall⟩ := h
  have hall' := allB_iff.1 hall
  have key : ∀ i, i < xs.length → i + 1 ≤ (xs.getD i 0).natAbs := by
    intro i
    induction i with
    | zero =>
      intro hi
      have := hall' 0 hi
      unfold okAt litB at this
      simp only [Bool.and_eq_true, decide_eq_true_eq] at this
      omega
    | succ i ih =>
      intro hi
      have h1 := ih (by omega)
      have := hall' (i + 1) hi
      unfold okAt at this
      simp only [Bool.and_eq_true, Bool.or_eq_true, decide_eq_true_eq, Nat.add_sub_cancel] at this
      omega
  by_cases h10 : xs.length ≤ 10
  · exact h10
  · exfalso
    have h1 := key 10 (by omega)
    have := hall' 10 (by omega)
    unfold okAt litB at this
    simp only [Bool.and_eq_true] at this
    have h2 := inB_iff.1 this.1.2
    have h3 := inB_iff.1 hn
    omega
theorem clausesBytes_len : ∀ (L : List (List Int)), (∀ c ∈ L, c.length ≤ 10) → (clausesBytes L).length ≤ 11 * L.length
  | [], _ => by simp [clausesBytes]
  | c :: r, h => by
    have ih := clausesBytes_len r (fun x hx => h x (List.mem_cons_of_mem _ hx))
    have h1 := h c (List.mem_cons_self ..)
    show (clauseBytes c ++ clausesBytes r).length ≤ _
    rw [List.length_append]
    simp only [clauseBytes, List.length_cons, List.length_map]
    omega
theorem case_parts {c : CaseD} (h : caseB c = true) : c.name.size ≤ 8 ∧ c.form.clauses.length ≤ 48 ∧ c.proof.length ≤ 128 ∧ (∀ x ∈ c.form.clauses ++ c.proof, clauseB c.form.letters x = true) ∧ inB 1 10 c.form.letters = true := by
  unfold caseB formB nameB at h
  simp only [Bool.and_eq_true, decide_eq_true_eq] at h
  obtain ⟨⟨⟨h1, _⟩, ⟨⟨h2, h3⟩, h4⟩, h5⟩, h6⟩ := h
  have h1' := inB_iff.1 h1
  refine ⟨by omega, h3, h5, ?_, h2⟩
  intro x hx
  rcases List.mem_append.1 hx with hx | hx
  · obtain ⟨i, hi, rfl⟩ := List.mem_iff_getElem.1 hx
    have := allB_iff.1 h4 i hi
    simpa [hi] using this
  · obtain ⟨i, hi, rfl⟩ := List.mem_iff_getElem.1 hx
    have := allB_iff.1 h6 i hi
    simpa [hi] using this
theorem body_len {c : CaseD} (h : caseB c = true) : (bodyBytes c).length ≤ 2000 := by
  obtain ⟨h1, h2, h3, h4, _⟩ := case_parts h
  have h5 := clausesBytes_len (c.form.clauses ++ c.proof) (fun x hx => clause_len (h4 x hx))
  rw [List.length_append] at h5
  unfold bodyBytes headBytes
  simp only [List.length_append, List.length_cons, List.length_nil, bytesOf_len]
  omega

/-- All are bytes. -/
def AllB (xs : List Int) : Prop := ∀ x ∈ xs, 0 ≤ x ∧ x < 256
theorem AllB.append {a b : List Int} (h : AllB a) (k : AllB b) : AllB (a ++ b) := fun x hx => by
  rcases List.mem_append.1 hx with h1 | h1
  · exact h x h1
  · exact k x h1
theorem by8_rng (n : Int) : 0 ≤ by8 n ∧ by8 n < 256 := by rw [by8_eq]; omega
theorem bytesOf_rng (s : ByteArray) : AllB (bytesOf s) := fun x hx => by
  obtain ⟨b, _, rfl⟩ := List.mem_map.1 hx
  have := b.toNat_lt
  omega
theorem clauses_rng (L : List (List Int)) : AllB (clausesBytes L) := fun x hx => by
  obtain ⟨c, _, h⟩ := List.mem_flatMap.1 hx
  rcases List.mem_cons.1 h with rfl | h
  · exact by8_rng _
  · obtain ⟨y, _, rfl⟩ := List.mem_map.1 h
    exact by8_rng _
theorem lit_rng (a b c d : Int) (h : (0 ≤ a ∧ a < 256) ∧ (0 ≤ b ∧ b < 256) ∧ (0 ≤ c ∧ c < 256) ∧ (0 ≤ d ∧ d < 256)) : AllB [a, b, c, d] := fun x hx => by
  simp only [List.mem_cons, List.not_mem_nil, or_false] at hx
  rcases hx with rfl | rfl | rfl | rfl
  · exact h.1
  · exact h.2.1
  · exact h.2.2.1
  · exact h.2.2.2
theorem one_rng (a : Int) (h : 0 ≤ a ∧ a < 256) : AllB [a] := fun x hx => by
  simp only [List.mem_cons, List.not_mem_nil, or_false] at hx
  subst hx; exact h
theorem three_rng (a b c : Int) (h : (0 ≤ a ∧ a < 256) ∧ (0 ≤ b ∧ b < 256) ∧ (0 ≤ c ∧ c < 256)) : AllB [a, b, c] := fun x hx => by
  simp only [List.mem_cons, List.not_mem_nil, or_false] at hx
  rcases hx with rfl | rfl | rfl
  · exact h.1
  · exact h.2.1
  · exact h.2.2
theorem body_rng (c : CaseD) : AllB (bodyBytes c) :=
  AllB.append (AllB.append (AllB.append (AllB.append (lit_rng _ _ _ _ (by omega)) (one_rng _ (by8_rng _))) (bytesOf_rng _)) (three_rng _ _ _ ⟨by8_rng _, by8_rng _, by8_rng _⟩)) (clauses_rng _)
theorem bytes_back (xs : List Int) (h : AllB xs) : bytesOf (strOfNums xs) = xs := by
  unfold bytesOf
  rw [strOfNums_data, List.map_map]
  have : ∀ (l : List Int), AllB l → l.map ((fun b : UInt8 => (b.toNat : Int)) ∘ fun n : Int => UInt8.ofNat n.toNat) = l := by
    intro l
    induction l with
    | nil => intro _; rfl
    | cons x r ih =>
      intro hl
      have h1 := hl x (List.mem_cons_self ..)
      rw [List.map_cons, ih (fun y hy => hl y (List.mem_cons_of_mem _ hy))]
      congr 1
      simp only [Function.comp, UInt8.toNat_ofNat']
      omega
  exact this xs h

theorem clausesBytes_snoc (L : List (List Int)) (k : Nat) (h : k < L.length) : clausesBytes (L.take (k + 1)) = clausesBytes (L.take k) ++ clauseBytes (L.getD k []) := by
  rw [List.take_succ_eq_append_getElem h]
  unfold clausesBytes
  rw [List.flatMap_append]
  simp [h]
theorem clauseBytes_take (c : List Int) (j : Nat) (h : j < c.length) : (clauseBytes c).take (j + 2) = (clauseBytes c).take (j + 1) ++ [by8 (c.getD j 0)] := by
  unfold clauseBytes
  simp only [List.take_succ_cons, List.cons_append]
  rw [List.take_succ_eq_append_getElem (show j < (c.map by8).length by simpa using h)]
  simp [h]

theorem Try.infoU8 : (Try.prog.info? 5).map (fun i => (i.zero, i.size, i.bytes)) = some (some (.int .u8 0), 1, 1) := by kernel_rfl
theorem b8_one (xs : List Int) : ∀ u ∈ xs.map B8, u.oneCell' = true := by
  intro u hu
  obtain ⟨x, _, rfl⟩ := List.mem_map.1 hu
  rfl

/-- Append of bytes to what the call owns; it may be nil. -/
theorem app_bytes {w : World} {ops : Array Oper} {rest : List Oper} {o : Oper} {a : Act} {Q : Exit → Act → World → Prop} (hgd : o.guard = none) (s x : Operand)
    (ho : o.op = .call { callee := .builtin .append, args := #[s, x], argTypes := #[22, 22] })
    (base : Nat) (v : Value) (n : Nat) (xs : List Int) (hs : a.eval s = v) (hown : w.ownsRow base 5 1 v n (xs.map B8))
    (sv : Value) (news : List Int) (hx : a.eval x = sv) (hsv : Slc w sv (news.map B8)) (m : Nat) (ys : List Int) (hm : m = n + news.length) (hys : ys = xs ++ news) (hlen : m ≤ 1099511627776) (hbase : base ≤ w.heap.size)
    (h : ∀ a' cap' w', w'.ownsRow base 5 1 (.slice a' m cap') m (ys.map B8) → Below base w w' → w.grownBy w' v.ownBlock → wpList Try.prog ops Q rest (a.put o.dst (.slice a' m cap')) w') :
    wpList Try.prog ops Q (o :: rest) a w := by
  obtain ⟨i0, hi, hz0, hz1, hz2⟩ := info_parts Try.infoU8
  subst hm hys
  refine wpList_append_slc hgd s x 22 ho base 5 i0 (.int .u8 0) 1 Try.underlying22 hi hz0 hz1 hz2 rfl v n (xs.map B8) hs hown sv (news.map B8) hx hsv (b8_one news) (by simp [maxLen]; omega) (by simp; omega) hbase ?_
  intro v' w' h1 h2 h3
  have h1' : w'.ownsRow base 5 1 v' (n + news.length) ((xs ++ news).map B8) := by simpa using h1
  obtain ⟨a', cap', rfl⟩ := owns_shape h1'
  exact h a' cap' w' h1' (below_grown hown hbase h2) h2
/-- Append of a string's bytes. -/
theorem app_strB {w : World} {ops : Array Oper} {rest : List Oper} {o : Oper} {a : Act} {Q : Exit → Act → World → Prop} (hgd : o.guard = none) (s x : Operand)
    (ho : o.op = .call { callee := .builtin .append, args := #[s, x], argTypes := #[22, 9] })
    (base : Nat) (v : Value) (n : Nat) (xs : List Int) (hs : a.eval s = v) (hown : w.ownsRow base 5 1 v n (xs.map B8))
    (str : ByteArray) (hx : a.eval x = .string str) (m : Nat) (ys : List Int) (hm : m = n + str.size) (hys : ys = xs ++ bytesOf str) (hlen : m ≤ 1099511627776) (hbase : base ≤ w.heap.size)
    (h : ∀ a' cap' w', w'.ownsRow base 5 1 (.slice a' m cap') m (ys.map B8) → Below base w w' → w.grownBy w' v.ownBlock → wpList Try.prog ops Q rest (a.put o.dst (.slice a' m cap')) w') :
    wpList Try.prog ops Q (o :: rest) a w := by
  obtain ⟨i0, hi, hz0, hz1, hz2⟩ := info_parts Try.infoU8
  subst hm hys
  refine Lib.wpList_append_own_string w hgd s x 22 9 ho base 5 i0 Try.underlying22 Try.underlying9 hi hz0 hz1 hz2 v n (xs.map B8) hs hown str hx (by simp [maxLen]; omega) (by omega) hbase ?_
  intro v' w' h1 h2 h3
  have h1' : w'.ownsRow base 5 1 v' (n + str.size) ((xs ++ bytesOf str).map B8) := by rw [List.map_append, ← strCells_bytes]; exact h1
  obtain ⟨a', cap', rfl⟩ := owns_shape h1'
  exact h a' cap' w' h1' (below_grown hown hbase h2) h2
/-- A new row of bytes. -/
theorem ownsB_lit (w : World) (xs : List Int) (n b : Nat) (cs : Array Value) (hcs : cs = (xs.map B8).toArray) (hn : xs.length = n) (h4 : n ≤ 4) (hb : b = w.heap.size) :
    (w.alloc (.cells cs 5)).ownsRow w.heap.size 5 1 (.slice (some ⟨b, 0, none⟩) n n) n (xs.map B8) := by
  subst hcs hb hn
  have h := World.ownsRow_lit (base := w.heap.size) (e := 5) (size := 1) w (xs.map B8).toArray xs.length (Nat.le_refl _) (by simp [maxLen]; omega) (by simp)
  simpa using h
theorem slcB_lit (w : World) (xs : List Int) (n b : Nat) (cs : Array Value) (hcs : cs = (xs.map B8).toArray) (hn : xs.length = n) (h4 : n ≤ 4) (hb : b = w.heap.size) :
    Slc (w.alloc (.cells cs 5)) (.slice (some ⟨b, 0, none⟩) n n) (xs.map B8) := slc_of_owns (ownsB_lit w xs n b cs hcs hn h4 hb)
/-- The row of a constant string's bytes, with its mark. -/
theorem slcB_mark (w : World) (xs : List Int) (n b p q : Nat) (cs : Array Value) (hcs : cs = (xs.map B8).toArray) (hn : xs.length = n) (h4 : n ≤ 4) (hb : b = w.heap.size) :
    Slc (w.alloc (.cells cs 5 (p, q))) (.slice (some ⟨b, 0, none⟩) n n) (xs.map B8) := by
  subst hcs hb hn
  right
  refine ⟨⟨w.heap.size, 0, none⟩, xs.length, by simp, by simp, by unfold maxLen; omega, fun i u hi => ?_⟩
  have h1 : (w.alloc (.cells (xs.map B8).toArray 5 (p, q))).heap[w.heap.size]? = some (.cells (xs.map B8).toArray 5 (p, q)) := heap_alloc_new w _
  have h2 : ((⟨w.heap.size, 0, none⟩ : Addr).add i) = ⟨w.heap.size, i, none⟩ := by unfold Addr.add; split <;> simp_all
  rw [h2]
  have h3 : ((xs.map B8).toArray)[i]? = some u := by simpa using hi
  simp only [World.cell?, h1]
  simpa using h3
/-- Append to a full row that is not the call's own: always into a new one. -/
theorem app_bytes_grow {w : World} {ops : Array Oper} {rest : List Oper} {o : Oper} {a : Act} {Q : Exit → Act → World → Prop} (hgd : o.guard = none) (s x : Operand)
    (ho : o.op = .call { callee := .builtin .append, args := #[s, x], argTypes := #[22, 22] })
    (base : Nat) (b : Nat) (n : Nat) (xs : List Int) (hs : a.eval s = .slice (some ⟨b, 0, none⟩) n n) (hold : Slc w (.slice (some ⟨b, 0, none⟩) n n) (xs.map B8))
    (g k : Nat) (news : List Int) (hx : a.eval x = .slice (some ⟨g, 0, none⟩) k k) (hsv : Slc w (.slice (some ⟨g, 0, none⟩) k k) (news.map B8)) (hk : 0 < k) (m : Nat) (ys : List Int) (hm : m = n + k) (hys : ys = xs ++ news) (hlen : m ≤ 1099511627776) (hbase : base ≤ w.heap.size)
    (h : ∀ a' cap' w', w'.ownsRow base 5 1 (.slice a' m cap') m (ys.map B8) → Below base w w' → wpList Try.prog ops Q rest (a.put o.dst (.slice a' m cap')) w') :
    wpList Try.prog ops Q (o :: rest) a w := by
  obtain ⟨i0, hi, hz0, hz1, hz2⟩ := info_parts Try.infoU8
  subst hm hys
  have h1 : ∀ j u, (xs.map B8)[j]? = some u → w.cell? ((⟨b, 0, none⟩ : Addr).add j) = some u := by
    rcases hold with ⟨e, _⟩ | ⟨ad, c, e, _, _, hc⟩
    · cases e
    · simp only [Value.slice.injEq, Option.some.injEq] at e
      obtain ⟨rfl, _, _⟩ := e
      exact hc
  have h2 : ∀ j u, (news.map B8)[j]? = some u → w.cell? ((⟨g, 0, none⟩ : Addr).add j) = some u := by
    rcases hsv with ⟨e, _⟩ | ⟨ad, c, e, _, _, hc⟩
    · cases e
    · simp only [Value.slice.injEq, Option.some.injEq] at e
      obtain ⟨rfl, _, _⟩ := e
      exact hc
  have l1 : (xs.map B8).length = n := by
    rcases hold with ⟨e, _⟩ | ⟨ad, c, e, _, _, hc⟩
    · cases e
    · simp only [Value.slice.injEq] at e; exact e.2.1.symm
  have l2 : (news.map B8).length = k := by
    rcases hsv with ⟨e, _⟩ | ⟨ad, c, e, _, _, hc⟩
    · cases e
    · simp only [Value.slice.injEq] at e; exact e.2.1.symm
  refine wpList_append_grows w hgd s x 22 ho 5 i0 (.int .u8 0) 1 1 Try.underlying22 hi hz0 hz1 hz2 rfl (by decide) (some ⟨b, 0, none⟩) n n (xs.map B8) hs (fun e => by cases e) (by rw [l1, Nat.mul_one]) (fun b' e => by cases e; exact h1) ⟨g, 0, none⟩ k k (news.map B8) hx (by rw [l2, Nat.mul_one]) h2 (b8_one news) (by omega) (by simp [maxLen]; omega) (by omega) ?_
  intro v' w' r1 r2
  have r1' : w'.ownsRow base 5 1 v' (n + k) ((xs ++ news).map B8) := by rw [List.map_append]; exact owns_base r1 hbase
  obtain ⟨a', cap', rfl⟩ := owns_shape r1'
  exact h a' cap' w' r1' ((Below.refl _ _).grown r2 hbase (by intro k hk; cases hk))
/-- Bytes as a string. -/
theorem conv_bytes {w : World} {base n cap : Nat} {a : Option Addr} {xs : List Int} (h : w.ownsRow base 5 1 (.slice a n cap) n (xs.map B8)) (h0 : 0 < n) :
    (convert 22 9 (.slice a n cap)).run Try.prog w = .ok (.string (strOfNums xs)) w := by
  have hl : xs.length = n := by have := h.1; simpa using this
  obtain ⟨g, cap', e, _⟩ := owns_some h (by intro e; cases e; omega)
  simp only [Value.slice.injEq, true_and] at e
  obtain ⟨rfl, rfl⟩ := e
  refine run_convert_bytes_arg (P := Try.prog) w 22 5 Try.underlying22 Try.underlying5 g 0 n cap xs hl (fun i hi => ?_) 9 Try.underlying9
  obtain ⟨b, off, e, _, hc⟩ := (show RdB w (.slice (some ⟨g, 0, none⟩) xs.length cap) xs by rw [hl]; exact slc_of_owns h).at (i := i) (by omega)
  simp only [Option.some.injEq, Addr.mk.injEq, and_true] at e
  obtain ⟨rfl, rfl⟩ := e
  exact hc

end Go.Proofs.Ytkkcgclliomocaa

namespace Go.Proofs.Ytkkcgclliomocaa
open Go.RowKit

theorem bytesOf_get (s : ByteArray) (k : Nat) (h : k < s.size) : (bytesOf s)[k]? = some (s[k].toNat : Int) := by
  have hk : k < s.data.toList.length := by rw [Array.length_toList]; exact h
  have e : s.data.toList[k]? = some s[k] := by
    rw [List.getElem?_eq_getElem hk, Array.getElem_toList]; rfl
  unfold bytesOf
  rw [List.getElem?_map, e]
  rfl
theorem bytesOf_take (s : ByteArray) (k : Nat) (h : k < s.size) : (bytesOf s).take (k + 1) = (bytesOf s).take k ++ [(s[k].toNat : Int)] := by
  rw [List.take_add_one, bytesOf_get s k h]
  rfl

set_option maxHeartbeats 1000000 in
theorem implCheck_any (a : Int) (s : ByteArray) (w : World) (h0 : 0 ≤ a) (h1 : a < 65003) (hs : s.size ≤ maxLen) :
    Calls Try.prog 102 #[.int .i64 a, .string s] w fun e w' => e = .returned (.tuple #[.int .i64 (chkL a (bytesOf s)), .bool true]) ∧ w = w' := by
  unfold maxLen at hs
  have hin := Lib.hid (show inB 0 65002 a = true from inB_iff.2 ⟨h0, by omega⟩)
  go_enter Try.func102, Try.ntmps102
  go_wp2_with (go_at_call 106; refine (within_any _ _ _ _).mono ?_; rintro e w' ⟨rfl, rfl⟩; rw [hin.out])
  go_loop [0, 6] (fun c i => ∃ (k : Nat) (b : Int), i = .int .i64 k ∧ k ≤ s.size ∧ c = .int .i64 b ∧ 0 ≤ b ∧ b < 65003 ∧ Hid (b = chkL a ((bytesOf s).take k))) (fun _ i => s.size - (intOf i).toNat)
  case atStart => exact ⟨0, a, rfl, Nat.zero_le _, rfl, h0, h1, rfl⟩
  case round =>
    obtain ⟨k, b, rfl, hk, rfl, hb0, hb1, HB⟩ := hrel
    by_cases hlt : k < s.size
    · have HT := Lib.hid (bytesOf_take s k hlt)
      have hx : s[k].toNat < 256 := s[k].toNat_lt
      go_wp2
      go_round
      case rel =>
        refine ⟨k + 1, (907 * b + s[k].toNat + 179) % 65003, by go_num, by omega, ?_, by omega, by omega, ?_⟩
        · first | rfl | (congr 1; omega) | (simp; omega)
        · show _ = _
          rw [HT.out, chkL_snoc, ← HB.out]
      case measure => simp [intOf]; omega
    · obtain rfl : k = s.size := by omega
      have HE := Lib.hid (show b = chkL a (bytesOf s) by have := HB.out; rwa [List.take_of_length_le (by rw [bytesOf_len]; exact Nat.le_refl _)] at this)
      go_wp2
      go_ret2
      exact ⟨by rw [HE.out]; rfl, rfl⟩

set_option maxHeartbeats 1000000 in
theorem specCheck_any (a : Int) (s : ByteArray) (w : World) (h0 : 0 ≤ a) (h1 : a < 65003) (hs : s.size ≤ maxLen) :
    Calls Try.prog 132 #[.int .i64 a, .string s] w fun e w' => e = .returned (.int .i64 (chkL a (bytesOf s))) ∧ w = w' := by
  unfold maxLen at hs
  go_enter Try.func132, Try.ntmps132
  go_wp2_with fail
  go_loop [0, 5] (fun c i => ∃ (k : Nat) (b : Int), i = .int .i64 k ∧ k ≤ s.size ∧ c = .int .i64 b ∧ 0 ≤ b ∧ b < 65003 ∧ Hid (b = chkL a ((bytesOf s).take k))) (fun _ i => s.size - (intOf i).toNat)
  case atStart => exact ⟨0, a, rfl, Nat.zero_le _, rfl, h0, h1, rfl⟩
  case round =>
    obtain ⟨k, b, rfl, hk, rfl, hb0, hb1, HB⟩ := hrel
    by_cases hlt : k < s.size
    · have HT := Lib.hid (bytesOf_take s k hlt)
      have hx : s[k].toNat < 256 := s[k].toNat_lt
      go_wp2
      go_round
      case rel =>
        refine ⟨k + 1, (907 * b + s[k].toNat + 179) % 65003, by go_num, by omega, ?_, by omega, by omega, ?_⟩
        · first | rfl | (congr 1; omega) | (simp; omega)
        · show _ = _
          rw [HT.out, chkL_snoc, ← HB.out]
      case measure => simp [intOf]; omega
    · obtain rfl : k = s.size := by omega
      have HE := Lib.hid (show b = chkL a (bytesOf s) by have := HB.out; rwa [List.take_of_length_le (by rw [bytesOf_len]; exact Nat.le_refl _)] at this)
      go_wp2
      go_ret
      exact ⟨by rw [HE.out]; rfl, rfl⟩

end Go.Proofs.Ytkkcgclliomocaa
