/-
  FnExactStoreCases: texts joined: Step, ClauseS, CaseVS, StoreS.
-/
import Derived.Deep.RegionHeld3
import Derived.Deep.CutRange
import Derived.Lib.ConvBytes
import Derived.Test.YtljhohacgceojaaMEStoreCasesAA
import Derived.Test.YtljhohacgceojaaMEStoreCasesAE
import Derived.Test.YtljhohacgceojaaMEStoreCasesAF
namespace Go.Proofs.Ytljhohacgceojaa
open Go.RowKit

theorem wp_app_ints {w : World} {o : Oper} {a : Act} {K : Act → World → Prop} {Q : Exit → Act → World → Prop} (s x : Operand)
    (ho : o.op = .call { callee := .builtin .append, args := #[s, x], argTypes := #[60, 60] })
    (base : Nat) (v : Value) (n : Nat) (xs : List Int) (hs : a.eval s = v) (hown : w.ownsRow base 2 1 v n (xs.map I64))
    (sv : Value) (news : List Int) (hx : a.eval x = sv) (hsv : Slc w sv (news.map I64)) (m : Nat) (ys : List Int) (hm : m = n + news.length) (hys : ys = xs ++ news) (hlen : m ≤ 17592186044416) (hbase : base ≤ w.heap.size)
    (h : ∀ a' cap' w', w'.ownsRow base 2 1 (.slice a' m cap') m (ys.map I64) → Below base w w' → w.grownBy w' v.ownBlock → (Value.slice a' m cap' = .slice none 0 0 ↔ v = .slice none 0 0 ∧ news = []) → K (a.put o.dst (.slice a' m cap')) w') :
    o.wp Try.prog a w K Q := by
  obtain ⟨i0, hi, hz0, hz1, hz2⟩ := info_parts Try.infoI64
  subst hm hys
  have hk : ∀ v' w', w'.ownsRow base 2 1 v' (n + news.length) (xs.map I64 ++ news.map I64) → w.grownBy w' v.ownBlock → (v' = .slice none 0 0 ↔ v = .slice none 0 0 ∧ news = []) → K (a.put o.dst v') w' := by
    intro v' w' h1 h2 h3
    have h1' : w'.ownsRow base 2 1 v' (n + news.length) ((xs ++ news).map I64) := by simpa using h1
    obtain ⟨a', cap', rfl⟩ := owns_shape h1'
    exact h a' cap' w' h1' (below_grown hown hbase h2) h2 h3
  rcases hsv with ⟨rfl, hnil⟩ | ⟨ad, cap, rfl, hcl, hcm, hc⟩
  · have hn : news = [] := by simpa using hnil
    subst hn
    have hrun := run_append_owned_none (P := Try.prog) (w := w) base 60 o.type 2 i0 1 Try.underlying60 hi v n (xs.map I64) hown
    unfold Oper.wp
    simp [execOp, ho, resolve, invoke, builtin, hs, hx, hrun, Result.andThen]
    exact hk v w (by simpa using hown) (World.grownBy.refl _ _) (by simp)
  · refine wp_append_own w s x 60 ho base 2 i0 (.int .i64 0) 1 8 Try.underlying60 hi hz0 hz1 hz2 rfl (by decide) v n (xs.map I64) hs hown ad (news.map I64).length cap (news.map I64) hx (by simp) hc (i64_one news) (by simp [maxLen]; omega) (by simp; omega) hbase ?_
    intro v' w' h2 h3 h4
    exact hk v' w' (by simpa using h2) h3 (by rw [h4]; simp)

theorem step_app_own {w : World} {ops : Array Oper} {o : Oper} {a : Act} {K : Act → World → Prop} {Q : Exit → Act → World → Prop} {E : Prop} (hgd : o.guard = none) (s x : Operand)
    (ho : o.op = .call { callee := .builtin .append, args := #[s, x], argTypes := #[60, 60] })
    (base : Nat) (ad : Addr) (n cap : Nat) (xs : List Int) (hs : a.eval s = .slice (some ad) n cap) (hown : w.ownsRow base 2 1 (.slice (some ad) n cap) n (xs.map I64))
    (sv : Value) (news : List Int) (hx : a.eval x = sv) (hsv : Slc w sv (news.map I64)) (m : Nat) (ys : List Int) (hm : m = n + news.length) (hys : ys = xs ++ news) (hlen : m ≤ 17592186044416) (hbase : base ≤ w.heap.size)
    (h : ∀ g cap' w', w'.ownsRow base 2 1 (.slice (some ⟨g, 0, none⟩) m cap') m (ys.map I64) → Below base w w' → w.grownBy w' (Value.slice (some ad) n cap).ownBlock → K (a.put o.dst (.slice (some ⟨g, 0, none⟩) m cap')) w') :
    if Region.wanted o (yielded ops a.tmps) = true then Oper.wp Try.prog o a w K Q else E := by
  have hw : Region.wanted o (yielded ops a.tmps) = true := by simp [Region.wanted, hgd]
  rw [if_pos hw]
  refine wp_app_ints s x ho base _ n xs hs hown sv news hx hsv m ys hm hys hlen hbase ?_
  intro a' cap' w' h1 h2 h3 h4
  obtain ⟨g, c, e, _⟩ := owns_some h1 (by intro e; have := h4.1 e; simp at this)
  simp only [Value.slice.injEq, true_and] at e
  obtain ⟨rfl, rfl⟩ := e
  exact h g _ w' h1 h2 h3

/-- A slice in one block reads on where this block is kept. -/
theorem slc_keptB {S : Nat → Prop} {w w' : World} {ad : Addr} {n cap : Nat} {vs : List Value} (h : Slc w (.slice (some ad) n cap) vs) (hk : Kept S w w') (hs : ¬ S ad.block) : Slc w' (.slice (some ad) n cap) vs := by
  rcases h with ⟨e1, _⟩ | ⟨ad2, cap2, e1, h1, h2, hc⟩
  · simp at e1
  · simp only [Value.slice.injEq, Option.some.injEq] at e1
    obtain ⟨rfl, rfl, rfl⟩ := e1
    refine .inr ⟨ad, cap, rfl, h1, h2, fun i u hi => ?_⟩
    have h0 := hc i u hi
    rw [hk.cell (cell_lt h0) (by rw [addr_add_block]; exact hs)]
    exact h0

/-- A new row of one stays as it is behind an append to another. -/
theorem slc_grown {w w' : World} {ad : Addr} {n cap : Nat} {vs : List Value} {row : Option Nat} (h : Slc w (.slice (some ad) n cap) vs) (hg : w.grownBy w' row) (hne : row ≠ some ad.block) : Slc w' (.slice (some ad) n cap) vs :=
  slc_keptB (S := fun k => row = some k) h ⟨hg.os, hg.tape, hg.output, hg.size, fun k hk hn => hg.block k hk fun e => hn e.symm⟩ hne

theorem slc_drew {w : World} {v : Value} {vs : List Value} (h : Slc w v vs) : Slc w.drew v vs := h
theorem slc_alloc {w : World} {v : Value} {vs : List Value} (h : Slc w v vs) (o : Obj) : Slc (w.alloc o) v vs := h.below ((Below.refl _ _).alloc (Nat.le_refl _) _) (Nat.le_refl _)

theorem slc_oneB (w : World) (z : Int) (b : Nat) (hb : b = w.heap.size) : Slc (w.alloc (.cells #[.int .i64 z] 2)) (.slice (some ⟨b, 0, none⟩) 1 1) ([z].map I64) := by subst hb; exact slc_one w z

theorem owns_emptyB (w : World) (b : Nat) (hb : b = w.heap.size) : (w.alloc (.cells #[] 2)).ownsRow w.heap.size 2 1 (.slice (some ⟨b, 0, none⟩) 0 0) 0 (([] : List Int).map I64) := by subst hb; exact owns_empty w
theorem owns_drew {w : World} {base : Nat} {e : TypeId} {v : Value} {n : Nat} {vs : List Value} (h : w.ownsRow base e 1 v n vs) : w.drew.ownsRow base e 1 v n vs := h

end Go.Proofs.Ytljhohacgceojaa

namespace Go.Proofs.Ytljhohacgceojaa
open Go.RowKit

set_option maxHeartbeats 400000 in
theorem specLetters_any (n : Int) (w : World) :
    Calls Try.prog 127 #[.int .i64 n] w fun e w' => e = .returned (.bool (inB 1 10 n)) ∧ w = w' := by
  go_enter Try.func127, Try.ntmps127
  go_wp2_with (go_at_call 134; refine (in_any _ _ _ _).mono ?_; rintro e w' ⟨rfl, rfl⟩)
  go_ret
  exact ⟨rfl, rfl⟩

set_option maxHeartbeats 400000 in
theorem specLetter_any (x : Int) (w : World) (h1 : -10 ≤ x) (h2 : x ≤ 10) :
    Calls Try.prog 129 #[.int .i64 x] w fun e w' => e = .returned (.int .i64 (x.natAbs : Nat)) ∧ w = w' := by
  by_cases h : x < 0
  · go_enter Try.func129, Try.ntmps129
    go_wp2_with fail
    go_ret
    exact ⟨congrArg (fun z => Ending.returned (Value.int IntKind.i64 z)) (by omega), rfl⟩
  · go_enter Try.func129, Try.ntmps129
    go_wp2_with fail
    go_ret
    exact ⟨congrArg (fun z => Ending.returned (Value.int IntKind.i64 z)) (by omega), rfl⟩

theorem Try.infoBool : (Try.prog.info? 4).map (fun i => (i.zero, i.size, i.bytes)) = some (some (.bool false), 1, 1) := by kernel_rfl

/-- What has been seen of the first k literals. -/
def seenL (xs : List Int) (k : Nat) : List Value := (List.range 11).map fun d => .bool (!allB k fun j => decide ((xs.getD j 0).natAbs ≠ d))
theorem seenL_len (xs : List Int) (k : Nat) : (seenL xs k).length = 11 := by simp [seenL]
theorem seenL_zero (xs : List Int) : seenL xs 0 = List.replicate 11 (.bool false) := rfl
theorem seenL_at (xs : List Int) (k d : Nat) (h : d < 11) : (seenL xs k)[d]? = some (.bool (!allB k fun j => decide ((xs.getD j 0).natAbs ≠ d))) := by
  unfold seenL; simp [h]
theorem allB_succ (k : Nat) (p : Nat → Bool) : allB (k + 1) p = (allB k p && p k) := by unfold allB; rw [List.range_succ]; simp
theorem seenL_set (xs : List Int) (k : Nat) (h : (xs.getD k 0).natAbs < 11) : (seenL xs k).set (xs.getD k 0).natAbs (.bool true) = seenL xs (k + 1) := by
  apply List.ext_getElem?
  intro d
  rw [List.getElem?_set]
  by_cases hd : d < 11
  · rw [seenL_at xs (k + 1) d hd, allB_succ]
    by_cases he : (xs.getD k 0).natAbs = d
    · rw [if_pos he, if_pos (by rw [seenL_len]; exact h)]
      simp only [ne_eq, he, not_true_eq_false, decide_false, Bool.and_false, Bool.not_false]
    · rw [if_neg he, seenL_at xs k d hd]
      simp only [ne_eq, he, not_false_eq_true, decide_true, Bool.and_true]
  · have h1 : (seenL xs k)[d]? = none := by rw [List.getElem?_eq_none]; rw [seenL_len]; omega
    have h2 : (seenL xs (k + 1))[d]? = none := by rw [List.getElem?_eq_none]; rw [seenL_len]; omega
    have he : ¬ (xs.getD k 0).natAbs = d := by omega
    rw [if_neg he, h1, h2]

set_option maxHeartbeats 2000000 in
set_option maxRecDepth 4000 in
theorem specLits_any (n : Int) (v : Value) (xs : List Int) (w : World) (h : RdI w v xs) (hn : inB 1 10 n = true) :
    Calls Try.prog 128 #[.int .i64 n, v] w fun e w' => e = .returned (.bool (litsB n xs)) ∧ Below w.heap.size w w' := by
  obtain ⟨i0, hi, hz0, hz1, hz2⟩ := info_parts Try.infoBool
  obtain ⟨a, c, rfl⟩ := h.shape
  have hl := h.len
  unfold maxLen at hl
  have HS := Lib.hid h
  have HN := Lib.hid hn
  obtain ⟨n1, n2⟩ := inB_iff.1 hn
  clear h hn
  go_enter Try.func128, Try.ntmps128
  go_wp2_with (at_make; refine wpList_make_full _ rfl _ _ 160 rfl w.heap.size 4 i0 (.bool false) 1 Try.underlying160 hi hz0 hz1 .i64 .i64 11 11 11 rfl rfl rfl rfl (by rw [hz2]; decide) (by simp [maxLen]) (by simp) ?_; intro w1 hown hgrow)
  have hb1 : Below w.heap.size w w1 := (Below.refl _ _).grown hgrow (Nat.le_refl _) (by intro k hk; cases hk)
  have hz : (madeCells (Value.bool false).cells (11 * 1)).toList = seenL xs 0 := by
    rw [seenL_zero]; simpa [Value.cells] using toList_madeCells_one (Value.bool false) 11
  rw [hz] at hown
  have HO := Lib.hid hown
  have HB := Lib.hid hb1
  clear hown hb1 hz hgrow
  go_loopw [10] (fun i wr => ∃ k : Nat, i = .int .i64 k ∧ k ≤ xs.length ∧ Hid (∀ j, j < k → litAt n xs j = true) ∧ Hid (wr.ownsRow w.heap.size 4 1 (.slice (some ⟨w.heap.size, 0, none⟩) 11 11) 11 (seenL xs k)) ∧ Hid (Below w.heap.size w wr)) (fun i _ => xs.length - (intOf i).toNat)
  case atStart => exact ⟨0, rfl, Nat.zero_le _, fun j hj => by omega, HO.out, HB.out⟩
  case round =>
    obtain ⟨k, rfl, hk, hall, HO1, HB1⟩ := hrel
    by_cases hlt : k < xs.length
    · obtain ⟨b, off, rfl, hb0, hc⟩ := (HS.out.up HB1.out (Nat.le_refl _)).at hlt
      have hno := Lib.hid (show litAt n xs k = false → litsB n xs = false from fun h => allB_false hlt h)
      have hok := Lib.hid (show litAt n xs k = true → ∀ j, j < k + 1 → litAt n xs j = true from fun h j hj => by
        by_cases hjk : j < k
        · exact hall.out j hjk
        · obtain rfl : j = k := by omega
          exact h)
      by_cases hin : inB (-n) n (xs.getD k 0) = true
      · obtain ⟨x1, x2⟩ := inB_iff.1 hin
        have HIN := Lib.hid hin
        clear hin
        by_cases hx0 : xs.getD k 0 = 0
        · have hg := Lib.hid (hno.out (by unfold litAt litB; rw [hx0]; simp))
          rw [hx0] at hc x1 x2 HIN
          clear hx0
          go_wp2_with (go_at_call 134; refine (in_any _ _ _ _).mono ?_; rintro e w' ⟨rfl, rfl⟩)
          go_ret
          exact ⟨by rw [hg.out]; rfl, HB1.out⟩
        · have hlit := Lib.hid (show litB n (xs.getD k 0) = true by unfold litB; rw [HIN.out]; simp; exact hx0)
          have hne : ((xs.getD k 0) == 0) = false := by simpa using hx0
          have hd := HO1.out.cellAt (xs.getD k 0).natAbs (by omega)
          have hf := HO1.out.frozenAt (xs.getD k 0).natAbs
          rw [seenL_at xs k _ (by omega)] at hd
          have hval := Lib.hid (show litAt n xs k = allB k fun j => decide ((xs.getD j 0).natAbs ≠ (xs.getD k 0).natAbs) by unfold litAt; rw [hlit.out, Bool.true_and])
          have hset := Lib.hid (seenL_set xs k (by omega))
          have hst := Lib.hid (HO1.out.stored (xs.getD k 0).natAbs (.bool true)).1
          generalize hq : (allB k fun j => decide ((xs.getD j 0).natAbs ≠ (xs.getD k 0).natAbs)) = q at *
          clear hq hx0
          generalize xs.getD k 0 = x at *
          have hna : (x.natAbs : Int) < 11 := by omega
          have hna0 : (0 : Int) ≤ (x.natAbs : Int) := by omega
          cases q
          · have hg := Lib.hid (hno.out hval.out)
            go_wp2_with (first
              | (go_at_call 134; refine (in_any _ _ _ _).mono ?_; rintro e w' ⟨rfl, rfl⟩)
              | (go_at_call 129; refine (specLetter_any _ _ (by omega) (by omega)).mono ?_; rintro e w' ⟨rfl, rfl⟩))
            go_ret
            exact ⟨by rw [hg.out]; rfl, HB1.out⟩
          · have hg := Lib.hid (hok.out hval.out)
            go_wp2_with (first
              | (go_at_call 134; refine (in_any _ _ _ _).mono ?_; rintro e w' ⟨rfl, rfl⟩)
              | (go_at_call 129; refine (specLetter_any _ _ (by omega) (by omega)).mono ?_; rintro e w' ⟨rfl, rfl⟩))
            go_roundw
            case rel => exact ⟨k + 1, by go_num, by omega, hg.out, by rw [← hset.out]; exact hst.out, HB1.out.setCell (Nat.le_refl _) _⟩
            case measure => simp [intOf]; omega
      · have hif := bool_false hin
        have hg := Lib.hid (hno.out (by unfold litAt litB; rw [hif, Bool.and_false, Bool.false_and]))
        clear hin
        generalize xs.getD k 0 = x at *
        go_wp2_with (go_at_call 134; refine (in_any _ _ _ _).mono ?_; rintro e w' ⟨rfl, rfl⟩)
        go_ret
        exact ⟨by rw [hg.out]; rfl, HB1.out⟩
    · obtain rfl : k = xs.length := by omega
      go_wp2_with fail
      go_ret
      exact ⟨by rw [show litsB n xs = true from allB_true hall.out]; rfl, HB1.out⟩

set_option maxHeartbeats 2000000 in
theorem specClause_any (n : Int) (v : Value) (xs : List Int) (w : World) (h : RdI w v xs) :
    Calls Try.prog 97 #[.int .i64 n, v] w fun e w' => e = .returned (.bool (clauseB n xs)) ∧ Below w.heap.size w w' := by
  obtain ⟨a, c, rfl⟩ := h.shape
  have hl := h.len
  unfold maxLen at hl
  have HS := Lib.hid h
  clear h
  by_cases hn : inB 1 10 n = true
  · have HN := Lib.hid hn
    obtain ⟨n1, n2⟩ := inB_iff.1 hn
    clear hn
    by_cases hls : litsB n xs = true
    · have HL := Lib.hid hls
      have hcl := Lib.hid (show clauseB n xs = allB xs.length (downAt xs) by unfold clauseB; rw [HN.out, ← clause_eq, hls]; simp)
      have hbd := Lib.hid (show ∀ i, i < xs.length → -10 ≤ xs.getD i 0 ∧ xs.getD i 0 ≤ 10 from fun i hi => by
        have := allB_iff.1 hls i hi
        unfold litAt at this
        rw [Bool.and_eq_true] at this
        have := litB_bd HN.out this.1
        omega)
      clear hls
      go_enter Try.func97, Try.ntmps97
      go_wp2_with (first
        | (go_at_call 127; refine (specLetters_any _ _).mono ?_; rintro e w' ⟨rfl, rfl⟩; rw [HN.out])
        | (go_at_call 128; refine (specLits_any _ _ xs _ HS.out HN.out).mono ?_; rintro e w1 ⟨rfl, hb1⟩; rw [HL.out]))
      have HB := Lib.hid hb1
      clear hb1
      go_loopw [5] (fun i wr => ∃ k : Nat, i = .int .i64 k ∧ 1 ≤ k ∧ Hid (∀ j, j < k → j < xs.length → downAt xs j = true) ∧ Hid (Below w.heap.size w wr)) (fun i _ => xs.length - (intOf i).toNat)
      case atStart => exact ⟨1, rfl, Nat.le_refl _, (fun j hj _ => by
        obtain rfl : j = 0 := by omega
        rfl), HB.out⟩
      case round =>
        obtain ⟨k, rfl, hk1, hall, HB1⟩ := hrel
        by_cases hlt : k < xs.length
        · obtain ⟨m, rfl⟩ : ∃ m, k = m + 1 := ⟨k - 1, by omega⟩
          have hu := HS.out.up HB1.out (Nat.le_refl _)
          obtain ⟨b, off, rfl, hb0, hc⟩ := hu.at hlt
          obtain ⟨_, _, e, _, hc2⟩ := hu.at (i := m) (by omega)
          simp only [Option.some.injEq, Addr.mk.injEq, and_true] at e
          obtain ⟨rfl, rfl⟩ := e
          obtain ⟨x1, x2⟩ := hbd.out _ hlt
          obtain ⟨y1, y2⟩ := hbd.out m (by omega)
          have hval := Lib.hid (show downAt xs (m + 1) = decide ((xs.getD m 0).natAbs ≤ (xs.getD (m + 1) 0).natAbs) by unfold downAt; simp)
          have hno := Lib.hid (show downAt xs (m + 1) = false → clauseB n xs = false from fun h => by rw [hcl.out]; exact allB_false hlt h)
          have hok := Lib.hid (show downAt xs (m + 1) = true → ∀ j, j < m + 2 → j < xs.length → downAt xs j = true from fun h j hj hj2 => by
            by_cases hjk : j < m + 1
            · exact hall.out j hjk hj2
            · obtain rfl : j = m + 1 := by omega
              exact h)
          clear hu
          have hjm : (m : Int) < xs.length := by omega
          have hjl : ((m + 1 : Nat) : Int) < xs.length := by omega
          have hjt : (((m + 1 : Nat) : Int) - 1).toNat = m := by omega
          have hjw : IntKind.i64.wrap (((m + 1 : Nat) : Int) - 1) = (m : Int) := by rw [IntWalk.i64_in _ (by omega)]; omega
          generalize xs.getD (m + 1) 0 = x at *
          generalize xs.getD m 0 = y at *
          by_cases hxy : y.natAbs ≤ x.natAbs
          · have hxd : decide (x.natAbs < y.natAbs) = false := by simp; omega
            have hg := Lib.hid (hok.out (by rw [hval.out]; simp [hxy]))
            clear hxy
            go_wp2_with fail
            go_quiet ((go_at_call 129; exact quiet_same (specLetter_any _ _ (by omega) (by omega))))
            clear hjt hjw
            go_wp2_with fail
            go_roundw
            case rel => exact ⟨m + 2, by go_num, by omega, hg.out, below_drewN HB1.out _⟩
            case measure => simp [intOf]; omega
          · have hxd : decide (x.natAbs < y.natAbs) = true := by simp; omega
            have hg := Lib.hid (hno.out (by rw [hval.out]; simp [hxy]))
            clear hxy
            go_wp2_with fail
            go_quiet ((go_at_call 129; exact quiet_same (specLetter_any _ _ (by omega) (by omega))))
            clear hjt hjw
            go_wp2_with fail
            go_ret
            exact ⟨by rw [hg.out]; rfl, below_drewN HB1.out _⟩
        · go_wp2_with fail
          go_ret
          exact ⟨by rw [hcl.out, allB_true (fun i hi => hall.out i (by omega) hi)]; rfl, HB1.out⟩
    · have HL := Lib.hid (bool_false hls)
      have hcl := Lib.hid (show clauseB n xs = false by unfold clauseB; rw [HN.out, ← clause_eq, HL.out]; simp)
      clear hls
      go_enter Try.func97, Try.ntmps97
      go_wp2_with (first
        | (go_at_call 127; refine (specLetters_any _ _).mono ?_; rintro e w' ⟨rfl, rfl⟩; rw [HN.out])
        | (go_at_call 128; refine (specLits_any _ _ xs _ HS.out HN.out).mono ?_; rintro e w1 ⟨rfl, hb1⟩; rw [HL.out]))
      go_ret
      exact ⟨by rw [hcl.out]; rfl, hb1⟩
  · have hn' := Lib.hid (bool_false hn)
    clear hn
    go_enter Try.func97, Try.ntmps97
    go_wp2_with (go_at_call 127; refine (specLetters_any _ _).mono ?_; rintro e w' ⟨rfl, rfl⟩; rw [hn'.out])
    go_ret
    exact ⟨by rw [show clauseB n xs = false by unfold clauseB; rw [hn'.out, Bool.false_and]]; rfl, Below.refl _ _⟩

end Go.Proofs.Ytljhohacgceojaa

namespace Go.Proofs.Ytljhohacgceojaa
open Go.RowKit

theorem specClause_b (q : Bool) (n : Int) (v : Value) (xs : List Int) (w : World) (h : RdI w v xs) (hq : clauseB n xs = q) :
    Calls Try.prog 97 #[.int .i64 n, v] w fun e w' => e = .returned (.bool q) ∧ Below w.heap.size w w' := by
  have := specClause_any n v xs w h
  rwa [hq] at this

set_option maxHeartbeats 2000000 in
theorem specIs_any (b off : Nat) (f : FormD) (a : Option Addr) (c : Nat) (w : World) (x0 : w.cell? ⟨b, off, none⟩ = some (.int .i64 f.letters)) (x1 : w.cell? ⟨b, off + 1, none⟩ = some (.slice a f.clauses.length c)) (h : RdL w (.slice a f.clauses.length c) f.clauses) :
    Calls Try.prog 96 #[.pointer (some ⟨b, off, none⟩)] w fun e w' => e = .returned (.bool (formB f)) ∧ Below w.heap.size w w' := by
  obtain ⟨n, xs⟩ := f
  simp only at x0 x1 h ⊢
  have hl := h.len
  unfold maxLen at hl
  have HS := Lib.hid h
  clear h
  by_cases hn : inB 1 10 n = true
  · have HN := Lib.hid hn
    clear hn
    by_cases h48 : xs.length ≤ 48
    · go_enter Try.func96, Try.ntmps96
      go_wp2_with (go_at_call 127; refine (specLetters_any _ _).mono ?_; rintro e w' ⟨rfl, rfl⟩; rw [HN.out])
      obtain ⟨wo, hwo⟩ : ∃ wo, wo = w := ⟨w, rfl⟩
      go_loopw [23] (fun i wr => ∃ k : Nat, i = .int .i64 k ∧ k ≤ xs.length ∧ Hid (∀ j, j < k → clauseB n (xs.getD j []) = true) ∧ Hid (Below w.heap.size w wr)) (fun i _ => xs.length - (intOf i).toNat)
      case atStart => exact ⟨0, rfl, Nat.zero_le _, fun j hj => by omega, Below.refl _ _⟩
      case round =>
        obtain ⟨k, rfl, hk, hall, HB⟩ := hrel
        by_cases hlt : k < xs.length
        · obtain ⟨g, of, u, rfl, hb0, hc, hu⟩ := HS.out.at hlt
          have HU := Lib.hid hu
          have hno := Lib.hid (show clauseB n (xs.getD k []) = false → formB ⟨n, xs⟩ = false from fun h => by unfold formB; rw [allB_false hlt h, Bool.and_false])
          have hok := Lib.hid (show clauseB n (xs.getD k []) = true → ∀ j, j < k + 1 → clauseB n (xs.getD j []) = true from fun h j hj => by
            by_cases hjk : j < k
            · exact hall.out j hjk
            · obtain rfl : j = k := by omega
              exact h)
          clear hu
          cases hq : clauseB n (xs.getD k [])
          · have hg := Lib.hid (hno.out hq)
            have HQ := Lib.hid hq
            clear hq
            go_wp2_with fail
            refine wp_region_cls (fun X => X.cell? ⟨b, off, none⟩ = some (.int .i64 n) ∧ X.cell? ⟨b, off + 1, none⟩ = some (.slice (some ⟨g, of, none⟩) xs.length c) ∧ X.cell? ⟨g, of + k, none⟩ = some u ∧ Hid (Below w.heap.size w X)) (by kernel_rfl) (by kernel_rfl) (⟨held_of HB.out x0 (Nat.le_refl _), held_of HB.out x1 (Nat.le_refl _), held_of HB.out hc (Nat.le_refl _), HB.out.drew⟩) ?_
            repeat (first
              | go_big_quiet_skip
              | (refine q_step (by kernel_rfl) ?_
                 apply Exists.intro
                 refine ⟨fun X hX => ?_, ?_⟩
                 · (try dsimp only at hX)
                   go_simp
                   (first | with_reducible rfl | done | (go_at_call 97; have hcur := hX.2.2.2; refine (specClause_b _ _ _ _ _ (HU.out.up hcur.out (Nat.le_refl _)) HQ.out).mono ?_; rintro e w1 ⟨rfl, hb1⟩; have hbn := hcur.out.trans (hb1.mono hcur.out.size); exact ⟨rfl, held_of hbn x0 (Nat.le_refl _), held_of hbn x1 (Nat.le_refl _), held_of hbn hc (Nat.le_refl _), hbn⟩))
                 (try simp only [Act.put, List.setIfInBounds_toArray, List.set_cons_zero, List.set_cons_succ])))
            refine wpQuiet_nil ?_
            intro w1 hC
            (try dsimp only at hC)
            go_wp2_with fail
            go_ret
            exact ⟨by rw [hg.out]; rfl, hC.2.2.2.out⟩
          · have hg := Lib.hid (hok.out hq)
            have HQ := Lib.hid hq
            clear hq
            go_wp2_with fail
            refine wp_region_cls (fun X => X.cell? ⟨b, off, none⟩ = some (.int .i64 n) ∧ X.cell? ⟨b, off + 1, none⟩ = some (.slice (some ⟨g, of, none⟩) xs.length c) ∧ X.cell? ⟨g, of + k, none⟩ = some u ∧ Hid (Below w.heap.size w X)) (by kernel_rfl) (by kernel_rfl) (⟨held_of HB.out x0 (Nat.le_refl _), held_of HB.out x1 (Nat.le_refl _), held_of HB.out hc (Nat.le_refl _), HB.out.drew⟩) ?_
            repeat (first
              | go_big_quiet_skip
              | (refine q_step (by kernel_rfl) ?_
                 apply Exists.intro
                 refine ⟨fun X hX => ?_, ?_⟩
                 · (try dsimp only at hX)
                   go_simp
                   (first | with_reducible rfl | done | (go_at_call 97; have hcur := hX.2.2.2; refine (specClause_b _ _ _ _ _ (HU.out.up hcur.out (Nat.le_refl _)) HQ.out).mono ?_; rintro e w1 ⟨rfl, hb1⟩; have hbn := hcur.out.trans (hb1.mono hcur.out.size); exact ⟨rfl, held_of hbn x0 (Nat.le_refl _), held_of hbn x1 (Nat.le_refl _), held_of hbn hc (Nat.le_refl _), hbn⟩))
                 (try simp only [Act.put, List.setIfInBounds_toArray, List.set_cons_zero, List.set_cons_succ])))
            refine wpQuiet_nil ?_
            intro w1 hC
            (try dsimp only at hC)
            go_wp2_with fail
            go_roundw
            case rel => exact ⟨k + 1, by go_num, by omega, hg.out, hC.2.2.2⟩
            case measure => simp [intOf]; omega
        · obtain rfl : k = xs.length := by omega
          go_wp2_with fail
          go_ret
          exact ⟨by rw [show formB ⟨n, xs⟩ = true by unfold formB; simp only [HN.out, Bool.true_and]; rw [allB_true hall.out]; simp [h48]]; rfl, HB.out⟩
    · go_enter Try.func96, Try.ntmps96
      go_wp2_with (go_at_call 127; refine (specLetters_any _ _).mono ?_; rintro e w' ⟨rfl, rfl⟩; rw [HN.out])
      go_ret
      exact ⟨by rw [show formB ⟨n, xs⟩ = false by unfold formB; simp only [h48, decide_false, Bool.and_false, Bool.false_and]]; rfl, Below.refl _ _⟩
  · have HN := Lib.hid (bool_false hn)
    clear hn
    go_enter Try.func96, Try.ntmps96
    go_wp2_with (go_at_call 127; refine (specLetters_any _ _).mono ?_; rintro e w' ⟨rfl, rfl⟩; rw [HN.out])
    go_ret
    exact ⟨by rw [show formB ⟨n, xs⟩ = false by unfold formB; simp only [HN.out, Bool.false_and]]; rfl, Below.refl _ _⟩

set_option maxHeartbeats 2000000 in
theorem specCase_any (b off : Nat) (d : CaseD) (a1 a2 : Option Addr) (c1 c2 : Nat) (w : World) (x0 : w.cell? ⟨b, off, none⟩ = some (.string d.name)) (x1 : w.cell? ⟨b, off + 1, none⟩ = some (.int .i64 d.form.letters)) (x2 : w.cell? ⟨b, off + 2, none⟩ = some (.slice a1 d.form.clauses.length c1)) (x3 : w.cell? ⟨b, off + 3, none⟩ = some (.slice a2 d.proof.length c2))
    (h : RdCs w (.agg #[.string d.name, .int .i64 d.form.letters, .slice a1 d.form.clauses.length c1, .slice a2 d.proof.length c2]) d) :
    Calls Try.prog 52 #[.pointer (some ⟨b, off, none⟩)] w fun e w' => e = .returned (.bool (caseB d)) ∧ Below w.heap.size w w' := by
  obtain ⟨p, q, hns⟩ := h.parts
  obtain ⟨nm, f, xs⟩ := d
  simp only at x0 x1 x2 x3 p q hns ⊢
  have hl := q.len
  unfold maxLen at hl
  have HF := Lib.hid p.parts
  have HS := Lib.hid q
  have HNS := Lib.hid hns
  clear h p q hns
  by_cases hn : nameB nm = true
  · have HN := Lib.hid hn
    clear hn
    by_cases hf : formB f = true
    · have HFB := Lib.hid hf
      clear hf
      by_cases h128 : xs.length ≤ 128
      · go_enter Try.func52, Try.ntmps52
        go_wp2_with (go_at_call 95; refine (specIsName_any _ _ HNS.out).mono ?_; rintro e w' ⟨rfl, rfl⟩; rw [HN.out])
        refine (specIs_any b (off + 1) f a1 c1 w x1 x2 HF.out).mono ?_
        rintro e w1 ⟨rfl, hb1⟩
        rw [HFB.out]
        have HB1 := Lib.hid hb1
        have y3 : w1.cell? ⟨b, off + 3, none⟩ = some (.slice a2 xs.length c2) := held_of hb1 x3 (Nat.le_refl _)
        clear hb1
        go_wp2_with fail
        go_loopw [30] (fun i wr => ∃ k : Nat, i = .int .i64 k ∧ k ≤ xs.length ∧ Hid (∀ j, j < k → clauseB f.letters (xs.getD j []) = true) ∧ Hid (Below w.heap.size w wr)) (fun i _ => xs.length - (intOf i).toNat)
        case atStart => exact ⟨0, rfl, Nat.zero_le _, fun j hj => by omega, HB1.out⟩
        case round =>
          obtain ⟨k, rfl, hk, hall, HB⟩ := hrel
          by_cases hlt : k < xs.length
          · obtain ⟨g, of, u, rfl, hb0, hc, hu⟩ := HS.out.at hlt
            have HU := Lib.hid hu
            have hno := Lib.hid (show clauseB f.letters (xs.getD k []) = false → caseB ⟨nm, f, xs⟩ = false from fun h => by unfold caseB; rw [allB_false hlt h, Bool.and_false])
            have hok := Lib.hid (show clauseB f.letters (xs.getD k []) = true → ∀ j, j < k + 1 → clauseB f.letters (xs.getD j []) = true from fun h j hj => by
              by_cases hjk : j < k
              · exact hall.out j hjk
              · obtain rfl : j = k := by omega
                exact h)
            clear hu
            cases hq : clauseB f.letters (xs.getD k [])
            · have hg := Lib.hid (hno.out hq)
              have HQ := Lib.hid hq
              clear hq
              go_wp2_with fail
              refine wp_region_cls (fun X => X.cell? ⟨b, off + 1, none⟩ = some (.int .i64 f.letters) ∧ X.cell? ⟨b, off + 3, none⟩ = some (.slice (some ⟨g, of, none⟩) xs.length c2) ∧ X.cell? ⟨g, of + k, none⟩ = some u ∧ Hid (Below w.heap.size w X)) (by kernel_rfl) (by kernel_rfl) (⟨held_of HB.out x1 (Nat.le_refl _), held_of HB.out x3 (Nat.le_refl _), held_of HB.out hc (Nat.le_refl _), HB.out.drew⟩) ?_
              repeat (first
                | go_big_quiet_skip
                | (refine q_step (by kernel_rfl) ?_
                   apply Exists.intro
                   refine ⟨fun X hX => ?_, ?_⟩
                   · (try dsimp only at hX)
                     go_simp
                     (first | with_reducible rfl | done | (go_at_call 97; have hcur := hX.2.2.2; refine (specClause_b _ _ _ _ _ (HU.out.up hcur.out (Nat.le_refl _)) HQ.out).mono ?_; rintro e w1 ⟨rfl, hb1⟩; have hbn := hcur.out.trans (hb1.mono hcur.out.size); exact ⟨rfl, held_of hbn x1 (Nat.le_refl _), held_of hbn x3 (Nat.le_refl _), held_of hbn hc (Nat.le_refl _), hbn⟩))
                   (try simp only [Act.put, List.setIfInBounds_toArray, List.set_cons_zero, List.set_cons_succ])))
              refine wpQuiet_nil ?_
              intro w1 hC
              (try dsimp only at hC)
              go_wp2_with fail
              go_ret
              exact ⟨by rw [hg.out]; rfl, hC.2.2.2.out⟩
            · have hg := Lib.hid (hok.out hq)
              have HQ := Lib.hid hq
              clear hq
              go_wp2_with fail
              refine wp_region_cls (fun X => X.cell? ⟨b, off + 1, none⟩ = some (.int .i64 f.letters) ∧ X.cell? ⟨b, off + 3, none⟩ = some (.slice (some ⟨g, of, none⟩) xs.length c2) ∧ X.cell? ⟨g, of + k, none⟩ = some u ∧ Hid (Below w.heap.size w X)) (by kernel_rfl) (by kernel_rfl) (⟨held_of HB.out x1 (Nat.le_refl _), held_of HB.out x3 (Nat.le_refl _), held_of HB.out hc (Nat.le_refl _), HB.out.drew⟩) ?_
              repeat (first
                | go_big_quiet_skip
                | (refine q_step (by kernel_rfl) ?_
                   apply Exists.intro
                   refine ⟨fun X hX => ?_, ?_⟩
                   · (try dsimp only at hX)
                     go_simp
                     (first | with_reducible rfl | done | (go_at_call 97; have hcur := hX.2.2.2; refine (specClause_b _ _ _ _ _ (HU.out.up hcur.out (Nat.le_refl _)) HQ.out).mono ?_; rintro e w1 ⟨rfl, hb1⟩; have hbn := hcur.out.trans (hb1.mono hcur.out.size); exact ⟨rfl, held_of hbn x1 (Nat.le_refl _), held_of hbn x3 (Nat.le_refl _), held_of hbn hc (Nat.le_refl _), hbn⟩))
                   (try simp only [Act.put, List.setIfInBounds_toArray, List.set_cons_zero, List.set_cons_succ])))
              refine wpQuiet_nil ?_
              intro w1 hC
              (try dsimp only at hC)
              go_wp2_with fail
              go_roundw
              case rel => exact ⟨k + 1, by go_num, by omega, hg.out, hC.2.2.2⟩
              case measure => simp [intOf]; omega
          · obtain rfl : k = xs.length := by omega
            go_wp2_with fail
            go_ret
            exact ⟨by rw [show caseB ⟨nm, f, xs⟩ = true by unfold caseB; simp only [HN.out, HFB.out, Bool.true_and]; rw [allB_true hall.out]; simp [h128]]; rfl, HB.out⟩
      · go_enter Try.func52, Try.ntmps52
        go_wp2_with (go_at_call 95; refine (specIsName_any _ _ HNS.out).mono ?_; rintro e w' ⟨rfl, rfl⟩; rw [HN.out])
        refine (specIs_any b (off + 1) f a1 c1 w x1 x2 HF.out).mono ?_
        rintro e w1 ⟨rfl, hb1⟩
        rw [HFB.out]
        have HB1 := Lib.hid hb1
        have y3 : w1.cell? ⟨b, off + 3, none⟩ = some (.slice a2 xs.length c2) := held_of hb1 x3 (Nat.le_refl _)
        clear hb1
        go_wp2_with fail
        go_ret
        exact ⟨by rw [show caseB ⟨nm, f, xs⟩ = false by unfold caseB; simp only [h128, decide_false, Bool.and_false, Bool.false_and]]; rfl, HB1.out⟩
    · have HFB := Lib.hid (bool_false hf)
      clear hf
      go_enter Try.func52, Try.ntmps52
      go_wp2_with (go_at_call 95; refine (specIsName_any _ _ HNS.out).mono ?_; rintro e w' ⟨rfl, rfl⟩; rw [HN.out])
      refine (specIs_any b (off + 1) f a1 c1 w x1 x2 HF.out).mono ?_
      rintro e w1 ⟨rfl, hb1⟩
      rw [HFB.out]
      have HB1 := Lib.hid hb1
      clear hb1
      go_wp2_with fail
      go_ret
      exact ⟨by rw [show caseB ⟨nm, f, xs⟩ = false by unfold caseB; simp only [HFB.out, Bool.and_false, Bool.false_and]]; rfl, HB1.out⟩
  · have HN := Lib.hid (bool_false hn)
    clear hn
    go_enter Try.func52, Try.ntmps52
    go_wp2_with (go_at_call 95; refine (specIsName_any _ _ HNS.out).mono ?_; rintro e w' ⟨rfl, rfl⟩; rw [HN.out])
    go_ret
    exact ⟨by rw [show caseB ⟨nm, f, xs⟩ = false by unfold caseB; simp only [HN.out, Bool.false_and]]; rfl, Below.refl _ _⟩

set_option maxHeartbeats 2000000 in
theorem specValidCase_any (v : Value) (d : CaseD) (w : World) (h : RdCs w v d) :
    Calls Try.prog 18 #[v] w fun e w' => e = .returned (.bool (caseB d)) ∧ Below w.heap.size w w' := by
  obtain ⟨a1, c1, a2, c2, rfl⟩ := h.shape
  have HS := Lib.hid h
  clear h
  go_enter Try.func18, Try.ntmps18
  go_wp2_with fail
  refine Calls.at fun W hW => ?_
  have hb := show Below w.heap.size w W by subst hW; (repeat' first | exact Below.refl _ _ | assumption | refine Below.alloc ?_ ?_ _ | refine Below.setCell ?_ ?_ _ | refine Below.drew ?_ | (simp; done) | (simp; omega))
  have hk := show Blk W w.heap.size 37 #[.string d.name, .int .i64 d.form.letters, .slice a1 d.form.clauses.length c1, .slice a2 d.proof.length c2] by subst hW; exact Blk.new _ _ _
  clear hW
  refine (specCase_any w.heap.size 0 d a1 a2 c1 c2 W (hk.cell 0 rfl) (hk.cell 1 rfl) (hk.cell 2 rfl) (hk.cell 3 rfl) (HS.out.up hb (Nat.le_refl _))).mono ?_
  rintro e w1 ⟨rfl, hb1⟩
  have HB := Lib.hid (hb.trans (hb1.mono hb.size))
  clear hb hk hb1
  obtain ⟨q, hq⟩ : ∃ q, q = caseB d := ⟨_, rfl⟩
  rw [← hq]
  have HQ := Lib.hid hq
  clear hq
  go_wp2_with fail
  go_ret
  exact ⟨by rw [← HQ.out]; rfl, HB.out⟩

end Go.Proofs.Ytljhohacgceojaa

namespace Go.Proofs.Ytljhohacgceojaa
open Go.RowKit

theorem by8_add (x : Int) : by8 (x + 256) = by8 x := by rw [by8_eq, by8_eq]; omega
theorem lit_bd {n : Int} {xs : List Int} (h : clauseB n xs = true) {i : Nat} (hi : i < xs.length) : -10 ≤ xs.getD i 0 ∧ xs.getD i 0 ≤ 10 := by
  unfold clauseB at h
  simp only [Bool.and_eq_true] at h
  have h1 := allB_iff.1 h.2 i hi
  unfold okAt litB at h1
  simp only [Bool.and_eq_true] at h1
  have h2 := inB_iff.1 h1.1.2
  have h3 := inB_iff.1 h.1
  omega

set_option maxHeartbeats 4000000 in
set_option maxRecDepth 8000 in
theorem l07Clauses_any (base n : Nat) (a : Option Addr) (cap : Nat) (xs : List Int) (cv : Value) (L : List (List Int)) (t : Int) (w : World) (hown : w.ownsRow base 5 1 (.slice a n cap) n (xs.map B8)) (h0 : 0 < n) (hn : n ≤ 10000) (hbase : base ≤ w.heap.size)
    (hL : ∀ w', Below base w w' → RdL w' cv L) (hl : L.length ≤ 200) (hc : ∀ x ∈ L, clauseB t x = true) :
    Calls Try.prog 110 #[.slice a n cap, cv] w fun e w' => ∃ a' m cap', e = .returned (.slice a' m cap') ∧ n ≤ m ∧ m ≤ n + 11 * L.length ∧ w'.ownsRow base 5 1 (.slice a' m cap') m ((xs ++ clausesBytes L).map B8) ∧ Below base w w' := by
  obtain ⟨ca, cc, rfl⟩ := (hL w (Below.refl _ _)).shape
  have HO0 := Lib.hid hown
  have HL := Lib.hid hL
  have HC := Lib.hid hc
  clear hown hL hc
  go_enter Try.func110, Try.ntmps110
  go_wp2_with fail
  go_loopw [0, 9] (fun o i wr => ∃ (k m : Nat) (a : Option Addr) (cap : Nat), i = .int .i64 k ∧ k ≤ L.length ∧ o = .slice a m cap ∧ n ≤ m ∧ m ≤ n + 11 * k ∧ Hid (wr.ownsRow base 5 1 (.slice a m cap) m ((xs ++ clausesBytes (L.take k)).map B8)) ∧ Hid (Below base w wr)) (fun _ i _ => L.length - (intOf i).toNat)
  case atStart => exact ⟨0, n, a, cap, rfl, Nat.zero_le _, rfl, by omega, by omega, by rw [show clausesBytes (L.take 0) = [] from rfl, List.append_nil]; exact HO0, Below.refl _ _⟩
  case round =>
    obtain ⟨k, m, a1, cap1, rfl, hk, rfl, hm1, hm2, HO, HB⟩ := hrel
    have hzr := HB.out.size
    by_cases hlt : k < L.length
    · obtain ⟨b, off, u, rfl, hb0, hcu, hu⟩ := (HL.out wr HB.out).at hlt
      have HSN := Lib.hid (clausesBytes_snoc L k hlt)
      have hcb := HC.out (L.getD k []) (by rw [show L.getD k [] = L[k] by simp [hlt]]; exact List.getElem_mem hlt)
      have HLIT := Lib.hid (fun (i : Nat) (hi : i < (L.getD k []).length) => lit_bd hcb hi)
      have hcl := clause_len hcb
      have HAT := Lib.hid (fun (w' : World) (hb : Below base w w') => by
        obtain ⟨_, _, u', e, _, h2, h3⟩ := (HL.out w' hb).at hlt
        simp only [Option.some.injEq, Addr.mk.injEq, and_true] at e
        obtain ⟨rfl, rfl⟩ := e
        exact (⟨u', h2, h3⟩ : ∃ u, w'.cell? ⟨b, off + k, none⟩ = some u ∧ RdI w' u (L.getD k [])))
      obtain ⟨c, hcc⟩ : ∃ c, c = L.getD k [] := ⟨_, rfl⟩
      rw [← hcc] at hu HSN hcl HLIT HAT
      clear hcc hcb
      obtain ⟨ua, uc, rfl⟩ := hu.shape
      have HC0 := Lib.hid (show (clauseBytes c).take 1 = [(c.length : Int)] by unfold clauseBytes; rw [by8_eq, show ((c.length : Int) % 256) = c.length by omega]; rfl)
      have hltI : (k : Int) < (L.length : Int) := by omega
      clear hu
      go_upto_region 5 with (at_builtin; refine app_bytes rfl _ _ rfl base _ m (xs ++ clausesBytes (L.take k)) rfl (HO.out.alloc _) _ [(c.length : Int)] rfl (slcB_lit _ [(c.length : Int)] 1 _ _ rfl rfl (by omega) rfl) (m + 1) (xs ++ clausesBytes (L.take k) ++ (clauseBytes c).take 1) rfl (by rw [HC0.out]) (by omega) (by simp; omega) ?_; intro g6 cap6 w6 ho6 hb6 _)
      have HB6 := Lib.hid (HB.out.trans (((Below.refl _ _).alloc (by omega) _).trans hb6))
      have HO6 := Lib.hid ho6
      clear hcu ho6 hb6
      obtain ⟨u6, h6a, h6b⟩ := HAT.out w6 HB6.out
      obtain ⟨ua6, uc6, rfl⟩ := h6b.shape
      clear h6b
      go_wp2_with fail
      go_loopw [0, 26] (fun o i wr => ∃ (j m2 : Nat) (a : Option Addr) (cap : Nat), i = .int .i64 j ∧ j ≤ c.length ∧ o = .slice a m2 cap ∧ n ≤ m2 ∧ m2 ≤ n + 11 * k + 1 + j ∧ Hid (wr.ownsRow base 5 1 (.slice a m2 cap) m2 ((xs ++ clausesBytes (L.take k) ++ (clauseBytes c).take (j + 1)).map B8)) ∧ Hid (Below base w wr)) (fun _ i _ => c.length - (intOf i).toNat)
      case atStart => exact ⟨0, m + 1, g6, cap6, rfl, Nat.zero_le _, rfl, by omega, by omega, HO6, HB6⟩
      case round =>
        obtain ⟨j, m2, a7, cap7, rfl, hj, rfl, hm3, hm4, HO7, HB7⟩ := hrel
        have hzr2 := HB7.out.size
        by_cases hjl : j < c.length
        · obtain ⟨u7, h7a, h7b⟩ := HAT.out wr HB7.out
          obtain ⟨ua7, uc7, rfl⟩ := h7b.shape
          obtain ⟨b2, off2, rfl, hb2, hcx⟩ := h7b.at hjl
          have HT := Lib.hid (clauseBytes_take c j hjl)
          have hxb := HLIT.out j hjl
          obtain ⟨x, hx⟩ : ∃ x, x = c.getD j 0 := ⟨_, rfl⟩
          rw [← hx] at hcx HT hxb
          clear hx h7b
          have hjlI : (j : Int) < (c.length : Int) := by omega
          go_wp2_with (at_builtin; refine app_bytes rfl _ _ rfl base _ m2 (xs ++ clausesBytes (L.take k) ++ (clauseBytes c).take (j + 1)) rfl (HO7.out.alloc _) _ [x % 256] rfl (slcB_lit _ [x % 256] 1 _ _ rfl rfl (by omega) rfl) (m2 + 1) (xs ++ clausesBytes (L.take k) ++ (clauseBytes c).take (j + 2)) rfl (by rw [HT.out, show x % 256 = by8 x from (by8_eq x).symm]; simp only [List.append_assoc]) (by omega) (by simp; omega) ?_; intro g8 cap8 w8 ho8 hb8 hg8)
          have HB8 := Lib.hid (HB7.out.trans (((Below.refl _ _).alloc (by omega) _).trans hb8))
          go_roundw
          case rel => exact ⟨j + 1, m2 + 1, g8, cap8, by go_num, by omega, rfl, by omega, by omega, ho8, HB8⟩
          case measure => simp [intOf]; omega
        · obtain rfl : j = c.length := by omega
          have HT := Lib.hid (show xs ++ clausesBytes (L.take k) ++ (clauseBytes c).take (c.length + 1) = xs ++ clausesBytes (L.take (k + 1)) by
            rw [HSN.out, List.append_assoc, show (clauseBytes c).take (c.length + 1) = clauseBytes c from List.take_of_length_le (by simp [clauseBytes])])
          rw [HT.out] at HO7
          go_wp2_with fail
          go_roundw
          case rel => exact ⟨k + 1, m2, a7, cap7, by go_num, by omega, rfl, by omega, by omega, HO7, HB7⟩
          case measure => simp [intOf]; omega
    · obtain rfl : k = L.length := by omega
      rw [List.take_length] at HO
      go_wp2_with fail
      go_ret
      exact ⟨_, _, _, rfl, hm1, hm2, HO.out, HB.out⟩

theorem bytesWorld_below (w : World) (s : ByteArray) : Below w.heap.size w (Lib.bytesWorld w 5 s) :=
  ⟨rfl, rfl, rfl, by rw [Lib.bytesWorld_size]; omega, fun k hk => Lib.bytesWorld_at_old w _ s k hk⟩
theorem slc_bytesWorld (w : World) (s : ByteArray) (hs : s.size ≤ 1000) : Slc (Lib.bytesWorld w 5 s) (.slice (some ⟨w.heap.size, 0, none⟩) s.size (grownCap w s.size 0 5)) ((bytesOf s).map B8) := by
  have hl : ((bytesOf s).map B8).length = s.size := by rw [List.length_map, bytesOf_len]
  right
  refine ⟨⟨w.heap.size, 0, none⟩, grownCap w s.size 0 5, by rw [hl], by rw [hl]; exact grownCap_ge _ _ _ _, grownCap_le_maxLen _ _ _ _ (by unfold maxLen; omega), fun i u hi => ?_⟩
  have hil : i < s.size := by rw [← hl]; exact (List.getElem?_eq_some_iff.1 hi).1
  rw [show (⟨w.heap.size, 0, none⟩ : Addr).add i = ⟨w.heap.size, i, none⟩ by unfold Addr.add; split <;> simp_all, Lib.bytesWorld_cell w _ s i hil]
  rw [List.getElem?_map, bytesOf_get s i hil] at hi
  simp only [Option.map_some, Option.some.injEq] at hi
  subst hi
  rw [getD_str s i hil]
  rfl

theorem step_app_bytes {w : World} {ops : Array Oper} {o : Oper} {a : Act} {K : Act → World → Prop} {Q : Exit → Act → World → Prop} {E : Prop} (hgd : o.guard = none) (s x : Operand)
    (ho : o.op = .call { callee := .builtin .append, args := #[s, x], argTypes := #[41, 41] })
    (base : Nat) (v : Value) (n : Nat) (xs : List Int) (hs : a.eval s = v) (hown : w.ownsRow base 5 1 v n (xs.map B8))
    (g k : Nat) (news : List Int) (hx : a.eval x = .slice (some ⟨g, 0, none⟩) k k) (hsv : Slc w (.slice (some ⟨g, 0, none⟩) k k) (news.map B8)) (m : Nat) (ys : List Int) (hm : m = n + news.length) (hys : ys = xs ++ news) (hlen : m ≤ 1099511627776) (hbase : base ≤ w.heap.size)
    (h : ∀ a' cap' w', w'.ownsRow base 5 1 (.slice a' m cap') m (ys.map B8) → Below base w w' → K (a.put o.dst (.slice a' m cap')) w') :
    if Region.wanted o (yielded ops a.tmps) = true then Oper.wp Try.prog o a w K Q else E := by
  have hw : Region.wanted o (yielded ops a.tmps) = true := by simp [Region.wanted, hgd]
  rw [if_pos hw]
  obtain ⟨i0, hi, hz0, hz1, hz2⟩ := info_parts Try.infoU8
  subst hm hys
  rcases hsv with ⟨e, _⟩ | ⟨ad, c, e, hcl, hcm, hc⟩
  · cases e
  · simp only [Value.slice.injEq, Option.some.injEq] at e
    obtain ⟨rfl, e2, rfl⟩ := e
    refine wp_append_own w s x 41 ho base 5 i0 (.int .u8 0) 1 1 Try.underlying41 hi hz0 hz1 hz2 rfl (by decide) v n (xs.map B8) hs hown ⟨g, 0, none⟩ k k (news.map B8) hx (by rw [← e2]; simp) hc (b8_one news) (by simp at e2; simp [maxLen]; omega) (by simp at e2; omega) hbase ?_
    intro v' w' h2 h3 h4
    simp only [List.length_map] at e2
    subst e2
    have h1' : w'.ownsRow base 5 1 v' (n + news.length) ((xs ++ news).map B8) := by simpa using h2
    obtain ⟨a', cap', rfl⟩ := owns_shape h1'
    exact h a' cap' w' h1' (below_grown hown hbase h3)

end Go.Proofs.Ytljhohacgceojaa
