/-
  FnExactReadJobs: texts joined: DeskS, Step, RdjM, StoreI, ClauseS, CaseVS, StoreS, RdI, TextI, AppL.
-/
import Derived.Deep.RegionHeld3
import Derived.Deep.CutRange
import Derived.Maps.AppendAt
import Derived.Deep.Cut
import Derived.Lib.ConvBytes
import Derived.Test.YtggpbekclegfoaaDoorMEReadJobsAA
import Derived.Test.YtggpbekclegfoaaDoorMEReadJobsAB
import Derived.Test.YtggpbekclegfoaaDoorMEReadJobsAC
import Derived.Test.YtggpbekclegfoaaDoorMEReadJobsAD
import Derived.Test.YtggpbekclegfoaaDoorMEReadJobsAE
import Derived.Test.YtggpbekclegfoaaDoorMEReadJobsAG
import Derived.Test.YtggpbekclegfoaaDoorMEReadJobsAH
namespace Go.Proofs.YtggpbekclegfoaaDoor
open Go.RowKit

theorem jobB_s (j : JobD) : jobB j = (inB 1 1000 j.long && (inB 0 100000 j.due && (inB 0 1000 j.weight && inB 0 100000 j.ready))) := by
  unfold jobB; rw [Bool.and_comm (inB 0 100000 j.ready)]

set_option maxHeartbeats 1000000 in
theorem l06Job_any (b o : Nat) (j : JobD) (w : World) (d0 : w.cell? ⟨b, o, none⟩ = some (.int .i64 j.long)) (d1 : w.cell? ⟨b, o + 1, none⟩ = some (.int .i64 j.due)) (d2 : w.cell? ⟨b, o + 2, none⟩ = some (.int .i64 j.weight)) (d3 : w.cell? ⟨b, o + 3, none⟩ = some (.int .i64 j.ready)) :
    Calls Tryd.prog 49 #[.pointer (some ⟨b, o, none⟩)] w fun e w' => e = .returned (.bool (jobB j)) ∧ w = w' := by
  obtain ⟨t1, h1⟩ : ∃ t, inB 1 1000 j.long = t := ⟨_, rfl⟩
  obtain ⟨t2, h2⟩ : ∃ t, inB 0 100000 j.due = t := ⟨_, rfl⟩
  obtain ⟨t3, h3⟩ : ∃ t, inB 0 1000 j.weight = t := ⟨_, rfl⟩
  obtain ⟨t4, h4⟩ : ∃ t, inB 0 100000 j.ready = t := ⟨_, rfl⟩
  have HJ := Lib.hid (show jobB j = (t1 && (t2 && (t3 && t4))) by rw [jobB_s, h1, h2, h3, h4])
  have T1 := Lib.hid h1
  have T2 := Lib.hid h2
  have T3 := Lib.hid h3
  have T4 := Lib.hid h4
  clear h1 h2 h3 h4
  go_enter Tryd.func49, Tryd.ntmps49
  cases t1
  · go_wp2_with (go_at_call 55; refine (in_any _ _ _ _).mono ?_; rintro e w' ⟨rfl, rfl⟩; first | rw [T1.out] | rw [T2.out] | rw [T3.out] | rw [T4.out])
    go_ret
    exact ⟨by rw [HJ.out]; rfl, rfl⟩
  cases t2
  · go_wp2_with (go_at_call 55; refine (in_any _ _ _ _).mono ?_; rintro e w' ⟨rfl, rfl⟩; first | rw [T1.out] | rw [T2.out] | rw [T3.out] | rw [T4.out])
    go_ret
    exact ⟨by rw [HJ.out]; rfl, rfl⟩
  cases t3
  · go_wp2_with (go_at_call 55; refine (in_any _ _ _ _).mono ?_; rintro e w' ⟨rfl, rfl⟩; first | rw [T1.out] | rw [T2.out] | rw [T3.out] | rw [T4.out])
    go_ret
    exact ⟨by rw [HJ.out]; rfl, rfl⟩
  go_wp2_with (go_at_call 55; refine (in_any _ _ _ _).mono ?_; rintro e w' ⟨rfl, rfl⟩; first | rw [T1.out] | rw [T2.out] | rw [T3.out] | rw [T4.out])
  go_ret
  exact ⟨by rw [HJ.out]; simp, rfl⟩

set_option maxHeartbeats 1000000 in
theorem l06Are_any (v : Value) (js : List JobD) (w : World) (h : RdJ w v js) :
    Calls Tryd.prog 25 #[v] w fun e w' => e = .returned (.bool (areJobsB js)) ∧ w = w' := by
  obtain ⟨a, c, rfl⟩ := h.shape
  have hm := h.len
  simp only [maxLen] at hm
  have HP := Lib.hid h
  clear h
  go_enter Tryd.func25, Tryd.ntmps25
  go_wp2_with fail
  go_loop [3] (fun i => ∃ k : Nat, i = .int .i64 k ∧ k ≤ js.length ∧ Hid (∀ j, j < k → jobB (js.getD j J0) = true)) (fun i => js.length - (intOf i).toNat)
  case atStart => exact ⟨0, rfl, Nat.zero_le _, fun j hj => by omega⟩
  case round =>
    obtain ⟨k, rfl, hk, hall⟩ := hrel
    by_cases hlt : k < js.length
    · obtain ⟨b, off, rfl, hb, d0, d1, d2, d3⟩ := HP.out.at hlt
      obtain ⟨x, hx⟩ : ∃ x, x = js.getD k J0 := ⟨_, rfl⟩
      rw [← hx] at d0 d1 d2 d3
      have HX := Lib.hid hx
      have HC := Lib.hid (l06Job_any b (off + k * 4) x w d0 d1 d2 d3)
      clear hx d0 d1 d2 d3
      obtain ⟨q, hq⟩ : ∃ q, jobB x = q := ⟨_, rfl⟩
      rw [hq] at HC
      have HQ := Lib.hid hq
      clear hq
      cases q
      · have HN := Lib.hid (show areJobsB js = false by unfold areJobsB; rw [allB_false hlt (by rw [← HX.out, HQ.out]), Bool.and_false])
        go_wp2_with (go_at_call 49; refine HC.out.mono ?_; rintro e w' ⟨rfl, rfl⟩)
        go_ret
        exact ⟨by rw [HN.out]; rfl, rfl⟩
      · go_wp2_with (go_at_call 49; refine HC.out.mono ?_; rintro e w' ⟨rfl, rfl⟩)
        go_round
        case rel => exact ⟨k + 1, by go_num, by omega, fun j hj => by
          rcases Nat.lt_succ_iff_lt_or_eq.1 hj with h | rfl
          · exact hall.out j h
          · rw [← HX.out]; exact HQ.out⟩
        case measure => simp [intOf]; omega
    · obtain rfl : k = js.length := by omega
      have HA := Lib.hid (show areJobsB js = inB 1 12 js.length by unfold areJobsB; rw [allB_true hall.out, Bool.and_true])
      by_cases h1 : 1 ≤ js.length
      · by_cases h2 : js.length ≤ 12
        · have HN := Lib.hid (show areJobsB js = true by rw [HA.out, inB_iff]; omega)
          go_wp2_with fail
          go_ret
          exact ⟨by rw [HN.out]; exact congrArg (fun b => Ending.returned (Value.bool b)) (decide_eq_true (by omega)), rfl⟩
        · have HN := Lib.hid (show areJobsB js = false by rw [HA.out, ← Bool.not_eq_true, inB_iff]; omega)
          go_wp2_with fail
          go_ret
          exact ⟨by rw [HN.out]; exact congrArg (fun b => Ending.returned (Value.bool b)) (decide_eq_false (by omega)), rfl⟩
      · have HN := Lib.hid (show areJobsB js = false by rw [HA.out, ← Bool.not_eq_true, inB_iff]; omega)
        go_wp2_with fail
        go_ret
        exact ⟨by rw [HN.out]; rfl, rfl⟩

end Go.Proofs.YtggpbekclegfoaaDoor

namespace Go.Proofs.YtggpbekclegfoaaDoor
open Go.RowKit

theorem wp_app_ints {w : World} {o : Oper} {a : Act} {K : Act → World → Prop} {Q : Exit → Act → World → Prop} (s x : Operand)
    (ho : o.op = .call { callee := .builtin .append, args := #[s, x], argTypes := #[52, 52] })
    (base : Nat) (v : Value) (n : Nat) (xs : List Int) (hs : a.eval s = v) (hown : w.ownsRow base 2 1 v n (xs.map I64))
    (sv : Value) (news : List Int) (hx : a.eval x = sv) (hsv : Slc w sv (news.map I64)) (m : Nat) (ys : List Int) (hm : m = n + news.length) (hys : ys = xs ++ news) (hlen : m ≤ 17592186044416) (hbase : base ≤ w.heap.size)
    (h : ∀ a' cap' w', w'.ownsRow base 2 1 (.slice a' m cap') m (ys.map I64) → Below base w w' → w.grownBy w' v.ownBlock → (Value.slice a' m cap' = .slice none 0 0 ↔ v = .slice none 0 0 ∧ news = []) → K (a.put o.dst (.slice a' m cap')) w') :
    o.wp Tryd.prog a w K Q := by
  obtain ⟨i0, hi, hz0, hz1, hz2⟩ := info_parts Tryd.infoI64
  subst hm hys
  have hk : ∀ v' w', w'.ownsRow base 2 1 v' (n + news.length) (xs.map I64 ++ news.map I64) → w.grownBy w' v.ownBlock → (v' = .slice none 0 0 ↔ v = .slice none 0 0 ∧ news = []) → K (a.put o.dst v') w' := by
    intro v' w' h1 h2 h3
    have h1' : w'.ownsRow base 2 1 v' (n + news.length) ((xs ++ news).map I64) := by simpa using h1
    obtain ⟨a', cap', rfl⟩ := owns_shape h1'
    exact h a' cap' w' h1' (below_grown hown hbase h2) h2 h3
  rcases hsv with ⟨rfl, hnil⟩ | ⟨ad, cap, rfl, hcl, hcm, hc⟩
  · have hn : news = [] := by simpa using hnil
    subst hn
    have hrun := run_append_owned_none (P := Tryd.prog) (w := w) base 52 o.type 2 i0 1 Tryd.underlying52 hi v n (xs.map I64) hown
    unfold Oper.wp
    simp [execOp, ho, resolve, invoke, builtin, hs, hx, hrun, Result.andThen]
    exact hk v w (by simpa using hown) (World.grownBy.refl _ _) (by simp)
  · refine wp_append_own w s x 52 ho base 2 i0 (.int .i64 0) 1 8 Tryd.underlying52 hi hz0 hz1 hz2 rfl (by decide) v n (xs.map I64) hs hown ad (news.map I64).length cap (news.map I64) hx (by simp) hc (i64_one news) (by simp [maxLen]; omega) (by simp; omega) hbase ?_
    intro v' w' h2 h3 h4
    exact hk v' w' (by simpa using h2) h3 (by rw [h4]; simp)

theorem step_app_own {w : World} {ops : Array Oper} {o : Oper} {a : Act} {K : Act → World → Prop} {Q : Exit → Act → World → Prop} {E : Prop} (hgd : o.guard = none) (s x : Operand)
    (ho : o.op = .call { callee := .builtin .append, args := #[s, x], argTypes := #[52, 52] })
    (base : Nat) (ad : Addr) (n cap : Nat) (xs : List Int) (hs : a.eval s = .slice (some ad) n cap) (hown : w.ownsRow base 2 1 (.slice (some ad) n cap) n (xs.map I64))
    (sv : Value) (news : List Int) (hx : a.eval x = sv) (hsv : Slc w sv (news.map I64)) (m : Nat) (ys : List Int) (hm : m = n + news.length) (hys : ys = xs ++ news) (hlen : m ≤ 17592186044416) (hbase : base ≤ w.heap.size)
    (h : ∀ g cap' w', w'.ownsRow base 2 1 (.slice (some ⟨g, 0, none⟩) m cap') m (ys.map I64) → Below base w w' → w.grownBy w' (Value.slice (some ad) n cap).ownBlock → K (a.put o.dst (.slice (some ⟨g, 0, none⟩) m cap')) w') :
    if Region.wanted o (yielded ops a.tmps) = true then Oper.wp Tryd.prog o a w K Q else E := by
  have hw : Region.wanted o (yielded ops a.tmps) = true := by simp [Region.wanted, hgd]
  rw [if_pos hw]
  refine wp_app_ints s x ho base _ n xs hs hown sv news hx hsv m ys hm hys hlen hbase ?_
  intro a' cap' w' h1 h2 h3 h4
  obtain ⟨g, c, e, _⟩ := owns_some h1 (by intro e; have := h4.1 e; simp at this)
  simp only [Value.slice.injEq, true_and] at e
  obtain ⟨rfl, rfl⟩ := e
  exact h g _ w' h1 h2 h3

/-- A slice in one block reads on where this block is kept. -/
theorem slc_keptB {S : Nat → Prop} {w w' : World} {ad : Addr} {n cap : Nat} {vs : List Value} (h : Slc w (.slice (some ad) n cap) vs) (hk : Kept S w w') (hs : ¬ S ad.block) : Slc w' (.slice (some ad) n cap) vs := by
  rcases h with ⟨e1, _⟩ | ⟨ad2, cap2, e1, h1, h2, hc⟩
  · simp at e1
  · simp only [Value.slice.injEq, Option.some.injEq] at e1
    obtain ⟨rfl, rfl, rfl⟩ := e1
    refine .inr ⟨ad, cap, rfl, h1, h2, fun i u hi => ?_⟩
    have h0 := hc i u hi
    rw [hk.cell (cell_lt h0) (by rw [addr_add_block]; exact hs)]
    exact h0

/-- A new row of one stays as it is behind an append to another. -/
theorem slc_grown {w w' : World} {ad : Addr} {n cap : Nat} {vs : List Value} {row : Option Nat} (h : Slc w (.slice (some ad) n cap) vs) (hg : w.grownBy w' row) (hne : row ≠ some ad.block) : Slc w' (.slice (some ad) n cap) vs :=
  slc_keptB (S := fun k => row = some k) h ⟨hg.os, hg.tape, hg.output, hg.size, fun k hk hn => hg.block k hk fun e => hn e.symm⟩ hne

theorem slc_drew {w : World} {v : Value} {vs : List Value} (h : Slc w v vs) : Slc w.drew v vs := h
theorem slc_alloc {w : World} {v : Value} {vs : List Value} (h : Slc w v vs) (o : Obj) : Slc (w.alloc o) v vs := h.below ((Below.refl _ _).alloc (Nat.le_refl _) _) (Nat.le_refl _)

theorem slc_oneB (w : World) (z : Int) (b : Nat) (hb : b = w.heap.size) : Slc (w.alloc (.cells #[.int .i64 z] 2)) (.slice (some ⟨b, 0, none⟩) 1 1) ([z].map I64) := by subst hb; exact slc_one w z

theorem owns_emptyB (w : World) (b : Nat) (hb : b = w.heap.size) : (w.alloc (.cells #[] 2)).ownsRow w.heap.size 2 1 (.slice (some ⟨b, 0, none⟩) 0 0) 0 (([] : List Int).map I64) := by subst hb; exact owns_empty w
theorem owns_drew {w : World} {base : Nat} {e : TypeId} {v : Value} {n : Nat} {vs : List Value} (h : w.ownsRow base e 1 v n vs) : w.drew.ownsRow base e 1 v n vs := h

end Go.Proofs.YtggpbekclegfoaaDoor

namespace Go.Proofs.YtggpbekclegfoaaDoor
open Go.RowKit

/-- Job number i of a list of numbers. -/
def jobAt (xs : List Int) (i : Nat) : JobD := ⟨xs.getD (4 * i) 0, xs.getD (4 * i + 1) 0, xs.getD (4 * i + 2) 0, xs.getD (4 * i + 3) 0⟩
def jobsK (xs : List Int) (k : Nat) : List JobD := (List.range k).map (jobAt xs)
theorem jobsK_succ (xs : List Int) (k : Nat) : jobsK xs (k + 1) = jobsK xs k ++ [jobAt xs k] := by
  unfold jobsK
  rw [List.range_succ, List.map_append]
  rfl
theorem jobsK_len (xs : List Int) (k : Nat) : (jobsK xs k).length = k := by simp [jobsK]
theorem jobsC_snoc (js : List JobD) (j : JobD) : jobsC (js ++ [j]) = jobsC js ++ jobCells j := by simp [jobsC]
/-- The jobs with a text. -/
def rdjOk (s : ByteArray) : Bool := listOk s && (decide ((rdV s).length % 4 = 0) && areJobsB (jobsK (rdV s) ((rdV s).length / 4)))
def rdjV (s : ByteArray) : List JobD := if rdjOk s = true then jobsK (rdV s) ((rdV s).length / 4) else []
theorem rdj_bad {s : ByteArray} (h : listOk s = false) : rdjOk s = false := by unfold rdjOk; rw [h]; rfl
theorem rdj_odd {s : ByteArray} (h : (rdV s).length % 4 ≠ 0) : rdjOk s = false := by
  unfold rdjOk
  rw [decide_eq_false h, Bool.false_and, Bool.and_false]
theorem rdj_eq {s : ByteArray} (h : listOk s = true) (h4 : (rdV s).length % 4 = 0) : rdjOk s = areJobsB (jobsK (rdV s) ((rdV s).length / 4)) := by
  unfold rdjOk
  rw [h, decide_eq_true h4, Bool.true_and, Bool.true_and]
theorem rdjV_no {s : ByteArray} (h : rdjOk s = false) : rdjV s = [] := by unfold rdjV; rw [h]; rfl
theorem rdjV_yes {s : ByteArray} (h : rdjOk s = true) : rdjV s = jobsK (rdV s) ((rdV s).length / 4) := by unfold rdjV; rw [if_pos h]
theorem rdjV_cnt (s : ByteArray) : cntJ (rdjV s) ≤ 64 := by
  unfold cntJ rdjV
  have := @rdV_len s
  split
  · rw [jobsK_len]; omega
  · simp
theorem ownJ_nil (w : World) (base : Nat) : w.ownsRow base 49 4 (.slice none 0 0) 0 (jobsC []) := ⟨rfl, .inl ⟨rfl, rfl⟩⟩
theorem ownJ_empty (w : World) (b : Nat) (hb : b = w.heap.size) : (w.alloc (.cells #[] 49)).ownsRow w.heap.size 49 4 (.slice (some ⟨b, 0, none⟩) 0 0) 0 (jobsC []) := by
  subst hb
  exact World.ownsRow_lit (base := w.heap.size) (e := 49) (size := 4) w #[] 0 (Nat.le_refl _) (by simp [maxLen]) rfl
theorem owns4_shape {w : World} {base n : Nat} {v : Value} {vs : List Value} (h : w.ownsRow base 49 4 v n vs) : ∃ a cap, v = .slice a n cap := by
  rcases h.2 with ⟨rfl, e⟩ | ⟨g, cap, cur, rfl, _⟩
  · subst e
    exact ⟨none, 0, rfl⟩
  · exact ⟨_, _, rfl⟩
theorem belowK_grown {w w' : World} {base n size : Nat} {e : TypeId} {v : Value} {vs : List Value} (h : w.ownsRow base e size v n vs) (hbase : base ≤ w.heap.size) (hg : w.grownBy w' v.ownBlock) : Below base w w' :=
  ⟨hg.os, hg.tape, hg.output, hg.size, fun k hk => hg.block k (by omega) fun e => by
    have := (h.lt k e.symm).1
    omega⟩

/-- Append of one job to what the call owns, in a drawn region. -/
theorem step_app_job {w : World} {ops : Array Oper} {o : Oper} {a : Act} {K : Act → World → Prop} {Q : Exit → Act → World → Prop} {E : Prop} (hgd : o.guard = none) (s x : Operand)
    (ho : o.op = .call { callee := .builtin .append, args := #[s, x], argTypes := #[26, 26] })
    (base : Nat) (v : Value) (n : Nat) (js : List JobD) (hs : a.eval s = v) (hown : w.ownsRow base 49 4 v n (jobsC js))
    (j : JobD) (b : Nat) (hblk : Blk w b 49 #[.int .i64 j.long, .int .i64 j.due, .int .i64 j.weight, .int .i64 j.ready]) (hx : a.eval x = .slice (some ⟨b, 0, none⟩) 1 1)
    (m : Nat) (ys : List JobD) (hm : m = n + 1) (hys : ys = js ++ [j]) (hlen : n ≤ 1048576) (hbase : base ≤ w.heap.size)
    (h : ∀ a' cap' w', w'.ownsRow base 49 4 (.slice a' m cap') m (jobsC ys) → Below base w w' → K (a.put o.dst (.slice a' m cap')) w') :
    if Region.wanted o (yielded ops a.tmps) = true then Oper.wp Tryd.prog o a w K Q else E := by
  have hwt : Region.wanted o (yielded ops a.tmps) = true := by simp [Region.wanted, hgd]
  rw [if_pos hwt]
  subst hm hys
  obtain ⟨i0, hi, hz0, hz1, hz2⟩ := info_parts Tryd.infoJob
  have hc : ∀ t u, (jobCells j)[t]? = some u → w.cell? ((⟨b, 0, none⟩ : Addr).add t) = some u := by
    intro t u ht
    have h1 : w.heap[b]? = some (.cells #[.int .i64 j.long, .int .i64 j.due, .int .i64 j.weight, .int .i64 j.ready] 49) := hblk
    have h2 : ((⟨b, 0, none⟩ : Addr).add t) = ⟨b, t, none⟩ := by unfold Addr.add; split <;> simp_all
    rw [h2]
    simp only [World.cell?, h1]
    simpa [jobCells, I64] using ht
  obtain ⟨v', w', hr, h2, h3, _, h5⟩ := run_append_own_at (P := Tryd.prog) w base 26 o.type 49 i0 (.agg #[.int .i64 0, .int .i64 0, .int .i64 0, .int .i64 0]) 4 32 Tryd.underlying26 hi hz0 hz1 hz2 rfl (by decide) v n (jobsC js) hown ⟨b, 0, none⟩ 1 1 (jobCells j) rfl hc (by intro y hy; simp only [jobCells, List.mem_cons, List.not_mem_nil, or_false] at hy; rcases hy with rfl | rfl | rfl | rfl <;> rfl) (by unfold maxLen; omega) (by omega) hbase
  obtain ⟨a', cap', rfl⟩ := owns4_shape h2
  unfold Oper.wp execOp
  simp only [ho, resolve, invoke, builtin, Sem.run_bind, Sem.run_pure, Result.andThen_ok, List.map_toArray, List.map_cons, List.map_nil, hs, hx, hr]
  refine h a' cap' w' ?_ (belowK_grown hown hbase h3)
  rw [jobsC_snoc]
  exact h2

end Go.Proofs.YtggpbekclegfoaaDoor

namespace Go.Proofs.YtggpbekclegfoaaDoor
open Go.RowKit

end Go.Proofs.YtggpbekclegfoaaDoor

namespace Go.Proofs.YtggpbekclegfoaaDoor
open Go.RowKit

theorem Tryd.infoBool : (Tryd.prog.info? 4).map (fun i => (i.zero, i.size, i.bytes)) = some (some (.bool false), 1, 1) := by kernel_rfl

/-- What has been seen of the first k literals. -/
def seenL (xs : List Int) (k : Nat) : List Value := (List.range 11).map fun d => .bool (!allB k fun j => decide ((xs.getD j 0).natAbs ≠ d))
theorem seenL_len (xs : List Int) (k : Nat) : (seenL xs k).length = 11 := by simp [seenL]
theorem seenL_zero (xs : List Int) : seenL xs 0 = List.replicate 11 (.bool false) := rfl
theorem seenL_at (xs : List Int) (k d : Nat) (h : d < 11) : (seenL xs k)[d]? = some (.bool (!allB k fun j => decide ((xs.getD j 0).natAbs ≠ d))) := by
  unfold seenL; simp [h]
theorem allB_succ (k : Nat) (p : Nat → Bool) : allB (k + 1) p = (allB k p && p k) := by unfold allB; rw [List.range_succ]; simp
theorem seenL_set (xs : List Int) (k : Nat) (h : (xs.getD k 0).natAbs < 11) : (seenL xs k).set (xs.getD k 0).natAbs (.bool true) = seenL xs (k + 1) := by
  apply List.ext_getElem?
  intro d
  rw [List.getElem?_set]
  by_cases hd : d < 11
  · rw [seenL_at xs (k + 1) d hd, allB_succ]
    by_cases he : (xs.getD k 0).natAbs = d
    · rw [if_pos he, if_pos (by rw [seenL_len]; exact h)]
      simp only [ne_eq, he, not_true_eq_false, decide_false, Bool.and_false, Bool.not_false]
    · rw [if_neg he, seenL_at xs k d hd]
      simp only [ne_eq, he, not_false_eq_true, decide_true, Bool.and_true]
  · have h1 : (seenL xs k)[d]? = none := by rw [List.getElem?_eq_none]; rw [seenL_len]; omega
    have h2 : (seenL xs (k + 1))[d]? = none := by rw [List.getElem?_eq_none]; rw [seenL_len]; omega
    have he : ¬ (xs.getD k 0).natAbs = d := by omega
    rw [if_neg he, h1, h2]

end Go.Proofs.YtggpbekclegfoaaDoor

namespace Go.Proofs.YtggpbekclegfoaaDoor
open Go.RowKit

end Go.Proofs.YtggpbekclegfoaaDoor

namespace Go.Proofs.YtggpbekclegfoaaDoor
open Go.RowKit

theorem by8_add (x : Int) : by8 (x + 256) = by8 x := by rw [by8_eq, by8_eq]; omega
theorem lit_bd {n : Int} {xs : List Int} (h : clauseB n xs = true) {i : Nat} (hi : i < xs.length) : -10 ≤ xs.getD i 0 ∧ xs.getD i 0 ≤ 10 := by
  unfold clauseB at h
  simp only [Bool.and_eq_true] at h
  have h1 := allB_iff.1 h.2 i hi
  unfold okAt litB at h1
  simp only [Bool.and_eq_true] at h1
  have h2 := inB_iff.1 h1.1.2
  have h3 := inB_iff.1 h.1
  omega

theorem bytesWorld_below (w : World) (s : ByteArray) : Below w.heap.size w (Lib.bytesWorld w 5 s) :=
  ⟨rfl, rfl, rfl, by rw [Lib.bytesWorld_size]; omega, fun k hk => Lib.bytesWorld_at_old w _ s k hk⟩
theorem slc_bytesWorld (w : World) (s : ByteArray) (hs : s.size ≤ 1000) : Slc (Lib.bytesWorld w 5 s) (.slice (some ⟨w.heap.size, 0, none⟩) s.size (grownCap w s.size 0 5)) ((bytesOf s).map B8) := by
  have hl : ((bytesOf s).map B8).length = s.size := by rw [List.length_map, bytesOf_len]
  right
  refine ⟨⟨w.heap.size, 0, none⟩, grownCap w s.size 0 5, by rw [hl], by rw [hl]; exact grownCap_ge _ _ _ _, grownCap_le_maxLen _ _ _ _ (by unfold maxLen; omega), fun i u hi => ?_⟩
  have hil : i < s.size := by rw [← hl]; exact (List.getElem?_eq_some_iff.1 hi).1
  rw [show (⟨w.heap.size, 0, none⟩ : Addr).add i = ⟨w.heap.size, i, none⟩ by unfold Addr.add; split <;> simp_all, Lib.bytesWorld_cell w _ s i hil]
  rw [List.getElem?_map, bytesOf_get s i hil] at hi
  simp only [Option.map_some, Option.some.injEq] at hi
  subst hi
  rw [getD_str s i hil]
  rfl

theorem step_app_bytes {w : World} {ops : Array Oper} {o : Oper} {a : Act} {K : Act → World → Prop} {Q : Exit → Act → World → Prop} {E : Prop} (hgd : o.guard = none) (s x : Operand)
    (ho : o.op = .call { callee := .builtin .append, args := #[s, x], argTypes := #[90, 90] })
    (base : Nat) (v : Value) (n : Nat) (xs : List Int) (hs : a.eval s = v) (hown : w.ownsRow base 5 1 v n (xs.map B8))
    (g k : Nat) (news : List Int) (hx : a.eval x = .slice (some ⟨g, 0, none⟩) k k) (hsv : Slc w (.slice (some ⟨g, 0, none⟩) k k) (news.map B8)) (m : Nat) (ys : List Int) (hm : m = n + news.length) (hys : ys = xs ++ news) (hlen : m ≤ 1099511627776) (hbase : base ≤ w.heap.size)
    (h : ∀ a' cap' w', w'.ownsRow base 5 1 (.slice a' m cap') m (ys.map B8) → Below base w w' → K (a.put o.dst (.slice a' m cap')) w') :
    if Region.wanted o (yielded ops a.tmps) = true then Oper.wp Tryd.prog o a w K Q else E := by
  have hw : Region.wanted o (yielded ops a.tmps) = true := by simp [Region.wanted, hgd]
  rw [if_pos hw]
  obtain ⟨i0, hi, hz0, hz1, hz2⟩ := info_parts Tryd.infoU8
  subst hm hys
  rcases hsv with ⟨e, _⟩ | ⟨ad, c, e, hcl, hcm, hc⟩
  · cases e
  · simp only [Value.slice.injEq, Option.some.injEq] at e
    obtain ⟨rfl, e2, rfl⟩ := e
    refine wp_append_own w s x 90 ho base 5 i0 (.int .u8 0) 1 1 Tryd.underlying90 hi hz0 hz1 hz2 rfl (by decide) v n (xs.map B8) hs hown ⟨g, 0, none⟩ k k (news.map B8) hx (by rw [← e2]; simp) hc (b8_one news) (by simp at e2; simp [maxLen]; omega) (by simp at e2; omega) hbase ?_
    intro v' w' h2 h3 h4
    simp only [List.length_map] at e2
    subst e2
    have h1' : w'.ownsRow base 5 1 v' (n + news.length) ((xs ++ news).map B8) := by simpa using h2
    obtain ⟨a', cap', rfl⟩ := owns_shape h1'
    exact h a' cap' w' h1' (below_grown hown hbase h3)

end Go.Proofs.YtggpbekclegfoaaDoor

namespace Go.Proofs.YtggpbekclegfoaaDoor
open Go.RowKit Go.Shelf

theorem var_up {P : Program} {w w' : World} {B : Nat} {nm : String} {cs : Array Value} (h : w.var? P nm = some cs) (hb : Below B w w') (hB : w.heap.size ≤ B) : w'.var? P nm = some cs := by
  unfold World.var? at h ⊢
  cases hg : P.globalNamed nm with
  | none => rw [hg] at h; cases h
  | some g =>
    rw [hg] at h
    simp only [Option.bind_some] at h ⊢
    cases hh : w.heap[g]? with
    | none => rw [hh] at h; cases h
    | some o =>
      have hlt : g < w.heap.size := (Array.getElem?_eq_some_iff.1 hh).1
      rw [hb.block g (by omega)]
      exact h
/-- The library's two errors are not nil. -/
def HasErrs (w : World) : Prop := (∃ tp p, w.var? Tryd.prog "strconv.ErrSyntax" = some #[.iface tp p]) ∧ (∃ tp p, w.var? Tryd.prog "strconv.ErrRange" = some #[.iface tp p])
theorem HasErrs.up {w w' : World} {B : Nat} (h : HasErrs w) (hb : Below B w w') (hB : w.heap.size ≤ B) : HasErrs w' := by
  obtain ⟨⟨a, b, h1⟩, ⟨c, d, h2⟩⟩ := h
  exact ⟨⟨a, b, var_up h1 hb hB⟩, ⟨c, d, var_up h2 hb hB⟩⟩

theorem ParseInt_ok (s : ByteArray) (v : Int) (w : World) (hs : s.size ≤ 1048576) (h : Lib.parseIntB 64 s.data.toList = .ok v) :
    Calls Tryd.prog 76 #[.string s, .int .i64 10, .int .i64 64] w fun e w' => e = .returned (.tuple #[.int .i64 v, .nilIface]) ∧ Below w.heap.size w w' := by
  refine (Any.strconv_ParseInt_10_at64_ok Tryd.laysC174 s (by omega) v h w).mono ?_
  rintro e w' ⟨rfl, rfl | ⟨t, rfl⟩⟩
  · exact ⟨rfl, Below.refl _ _⟩
  · exact ⟨rfl, bytesWorld_below _ _⟩
theorem ParseInt_bad (s : ByteArray) (w : World) (hs : s.size ≤ 1048576) (h : ∀ v, Lib.parseIntB 64 s.data.toList ≠ .ok v) (he : HasErrs w) :
    Calls Tryd.prog 76 #[.string s, .int .i64 10, .int .i64 64] w fun e w' => ∃ z T a, e = .returned (.tuple #[.int .i64 z, .iface T (.pointer (some a))]) ∧ Below w.heap.size w w' := by
  obtain ⟨⟨a, b, h1⟩, ⟨c, d, h2⟩⟩ := he
  cases hp : Lib.parseIntB 64 s.data.toList with
  | ok v => exact absurd hp (h v)
  | range =>
    refine (Any.strconv_ParseInt_10_at64_range_var Tryd.laysC174 s (by omega) hp c d w h2).mono ?_
    rintro e w' ⟨N, rfl, _, _, hb⟩
    exact ⟨_, _, _, rfl, hb⟩
  | _ =>
    refine (Any.strconv_ParseInt_10_at64_syntax_var Tryd.laysC174 s (by omega) hp a b w h1).mono ?_
    rintro e w' ⟨N, rfl, _, _, hb⟩
    exact ⟨_, _, _, rfl, hb⟩

theorem DecimalZ_any (n : Int) (h0 : -1000000000000000 ≤ n) (h1 : n ≤ 1000000000000000) (w : World) (htab : HasPow w) :
    Calls Tryd.prog 36 #[.int .i64 n] w fun e w' => e = .returned (.string (itoaB n)) ∧ Below w.heap.size w w' := by
  have hcon := Tryd.strconv_FormatInt_10 n (by omega) (by omega) w htab
  rw [show (⟨(Lib.itoa n).toArray⟩ : ByteArray) = itoaB n from rfl] at hcon
  clear htab
  go_enter Tryd.func36, Tryd.ntmps36
  go_wp2_with (go_at_call 61; refine hcon.mono ?_; rintro e w' ⟨rfl, k, os, rfl⟩)
  go_ret
  exact ⟨rfl, below_grow (below_drewN (Below.refl _ _) _) _ (Nat.le_refl _)⟩

set_option maxHeartbeats 1000000 in
theorem ReadDecimal_any (s : ByteArray) (w : World) (hs : s.size ≤ 1048576) (hp : HasPow w) (he : HasErrs w) :
    Calls Tryd.prog 44 #[.string s] w fun e w' => e = .returned (.tuple #[.int .i64 (valN s), .bool (valOk s)]) ∧ Below w.heap.size w w' := by
  have HPW := Lib.hid hp
  by_cases hok : ∃ v, Lib.parseIntB 64 s.data.toList = .ok v
  · obtain ⟨v, hv⟩ := hok
    have HP := Lib.hid (ParseInt_ok s v w hs hv)
    have hval : valB s = if (-1000000000000000 ≤ v ∧ v ≤ 1000000000000000) ∧ itoaB v = s then some v else none := by unfold valB; rw [hv]
    clear hp he
    have hw := within_any v (-1000000000000000) 1000000000000000
    by_cases h0 : -1000000000000000 ≤ v ∧ v ≤ 1000000000000000
    · have hd := fun W hW => DecimalZ_any v h0.1 h0.2 W hW
      rw [show inB (-1000000000000000) 1000000000000000 v = true by rw [inB_iff]; exact h0] at hw
      have HW := Lib.hid hw
      by_cases he : itoaB v = s
      · have hval2 : valB s = some v := by rw [hval, if_pos ⟨h0, he⟩]
        have H1 := Lib.hid (show valN s = v by unfold valN; rw [hval2]; rfl)
        have H2 := Lib.hid (show valOk s = true by unfold valOk; rw [hval2]; rfl)
        rw [he] at hd
        have HD := Lib.hid hd
        clear hval hval2 h0 he hw hd hv
        go_enter Tryd.func44, Tryd.ntmps44
        go_wp2_with (first
          | (go_at_call 76; refine HP.out.mono ?_; rintro e w1 ⟨rfl, hb1⟩)
          | (go_at_call 51; refine (HW.out _).mono ?_; rintro e w' ⟨rfl, rfl⟩)
          | (go_at_call 36; refine (HD.out _ (HPW.out.up hb1 (Nat.le_refl _))).mono ?_; rintro e w2 ⟨rfl, hb2⟩)
          | fail)
        go_ret2
        exact ⟨by rw [H1.out, H2.out]; rfl, hb1.trans (hb2.mono hb1.size)⟩
      · have hval2 : valB s = none := by rw [hval, if_neg (fun h => he h.2)]
        have H1 := Lib.hid (show valN s = 0 by unfold valN; rw [hval2]; rfl)
        have H2 := Lib.hid (show valOk s = false by unfold valOk; rw [hval2]; rfl)
        have hne := str_ne he
        obtain ⟨D, hD⟩ : ∃ D, D = itoaB v := ⟨_, rfl⟩
        rw [← hD] at hd hne
        have HD := Lib.hid hd
        clear hval hval2 h0 he hw hd hv hD
        go_enter Tryd.func44, Tryd.ntmps44
        go_wp2_with (first
          | (go_at_call 76; refine HP.out.mono ?_; rintro e w1 ⟨rfl, hb1⟩)
          | (go_at_call 51; refine (HW.out _).mono ?_; rintro e w' ⟨rfl, rfl⟩)
          | (go_at_call 36; refine (HD.out _ (HPW.out.up hb1 (Nat.le_refl _))).mono ?_; rintro e w2 ⟨rfl, hb2⟩)
          | fail)
        go_ret2
        exact ⟨by rw [H1.out, H2.out]; rfl, hb1.trans (hb2.mono hb1.size)⟩
    · have hval2 : valB s = none := by rw [hval, if_neg (fun h => h0 h.1)]
      have H1 := Lib.hid (show valN s = 0 by unfold valN; rw [hval2]; rfl)
      have H2 := Lib.hid (show valOk s = false by unfold valOk; rw [hval2]; rfl)
      rw [show inB (-1000000000000000) 1000000000000000 v = false by apply bool_false; rw [inB_iff]; exact h0] at hw
      have HW := Lib.hid hw
      clear hval hval2 h0 hw hv
      go_enter Tryd.func44, Tryd.ntmps44
      go_wp2_with (first
        | (go_at_call 76; refine HP.out.mono ?_; rintro e w1 ⟨rfl, hb1⟩)
        | (go_at_call 51; refine (HW.out _).mono ?_; rintro e w' ⟨rfl, rfl⟩)
        | fail)
      go_ret2
      exact ⟨by rw [H1.out, H2.out]; rfl, hb1⟩
  · have HP := Lib.hid (ParseInt_bad s w hs (fun v hv => hok ⟨v, hv⟩) he)
    have hval2 : valB s = none := by
      unfold valB
      split
      · rename_i v hv
        exact absurd ⟨v, hv⟩ hok
      · rfl
    have H1 := Lib.hid (show valN s = 0 by unfold valN; rw [hval2]; rfl)
    have H2 := Lib.hid (show valOk s = false by unfold valOk; rw [hval2]; rfl)
    clear hp he hval2 hok
    go_enter Tryd.func44, Tryd.ntmps44
    go_wp2_with (first
      | (go_at_call 76; refine HP.out.mono ?_; rintro e w1 ⟨z, T, a, rfl, hb1⟩)
      | fail)
    go_ret2
    exact ⟨by rw [H1.out, H2.out]; rfl, hb1⟩

end Go.Proofs.YtggpbekclegfoaaDoor

namespace Go.Proofs.YtggpbekclegfoaaDoor
open Go.RowKit

def wordsN (xs : List Int) : List ByteArray := xs.map fun x => decS x.toNat
def listT (xs : List Int) : ByteArray := textS (wordsN xs)
theorem wordsN_len (xs : List Int) : (wordsN xs).length = xs.length := by simp [wordsN]
theorem wordsN_take (xs : List Int) (k : Nat) (h : k < xs.length) : wordsN (xs.take (k + 1)) = wordsN (xs.take k) ++ [decS (xs.getD k 0).toNat] := by
  unfold wordsN
  rw [List.take_add_one, List.map_append, List.getElem?_eq_getElem h, List.getD_eq_getElem?_getD, List.getElem?_eq_getElem h]
  rfl
theorem wordsN_at (xs : List Int) (k : Nat) (h : k < xs.length) : (wordsN xs).getD k E0 = decS (xs.getD k 0).toNat := by
  unfold wordsN
  rw [List.getD_eq_getElem?_getD, List.getD_eq_getElem?_getD, List.getElem?_map, List.getElem?_eq_getElem h]
  rfl
/-- Numbers that are written without a sign. -/
def Small (xs : List Int) : Prop := ∀ k, k < xs.length → 0 ≤ xs.getD k 0 ∧ xs.getD k 0 < 1000000000000000000
theorem wordsN_size {xs : List Int} (h : Small xs) : ∀ x ∈ wordsN xs, x.size ≤ 18 := by
  intro x hx
  obtain ⟨y, hy, rfl⟩ := List.mem_map.1 hx
  obtain ⟨k, hk, rfl⟩ := List.mem_iff_getElem.1 hy
  have := h k hk
  rw [List.getD_eq_getElem?_getD, List.getElem?_eq_getElem hk] at this
  exact decS_size (by simp only [Option.getD_some] at this; omega)

/-- Texts joined with commas. -/
theorem joined_any (v : Value) (ws : List ByteArray) (w : World) (h : RdSs w v ws) (hN : ∀ x ∈ ws, x.size ≤ 1000) (hl : ws.length ≤ 1000000) :
    Calls Tryd.prog 64 #[v] w fun e w' => e = .returned (.string (textS ws)) ∧ Below w.heap.size w w' := by
  obtain ⟨a, c, rfl⟩ := h.shape
  by_cases h0 : ws.length = 0
  · have hd : ((ws.length : Int) == 0) = true := by simp [h0]
    have he := Lib.hid (show textS ws = noneS by unfold textS; rw [show ws.isEmpty = true by rw [List.isEmpty_iff]; exact List.length_eq_zero_iff.1 h0]; rfl)
    clear h0 h
    go_enter Tryd.func64, Tryd.ntmps64
    go_wp2_with fail
    go_ret
    exact ⟨by rw [he.out]; rfl, Below.refl _ _⟩
  · have hd : ((ws.length : Int) == 0) = false := by rw [beq_eq_false_iff_ne]; omega
    obtain ⟨b, off, rfl, hbw, _⟩ := h.at (i := 0) (Nat.pos_of_ne_zero h0)
    have hcells : ∀ (j : Nat) x, ws[j]? = some x → w.cell? ⟨b, off + j, none⟩ = some (.string x) := by
      intro j x hj
      have hlt := (List.getElem?_eq_some_iff.1 hj).1
      obtain ⟨b', off', e, _, hc⟩ := h.at hlt
      simp only [Option.some.injEq, Addr.mk.injEq, and_true] at e
      obtain ⟨rfl, rfl⟩ := e
      rw [hc, List.getD_eq_getElem?_getD, hj]
      rfl
    have hcap : ws.length ≤ c := by
      rcases h.1 with ⟨e, _⟩ | ⟨ad, cap, e, h1, h2, _⟩
      · cases e
      · simp only [Value.slice.injEq, List.length_map] at e h1
        obtain ⟨_, _, rfl⟩ := e
        exact h1
    have hsz := joinBy_size 44 ws 1000 hN
    have hC := Tryd.strings_Join b off c ws ⟨#[44]⟩ w hcells hbw (by omega) hcap (by
      have e : (Lib.join (ws.map (·.data.toList)) (⟨#[44]⟩ : ByteArray).data.toList).length = (joinBy 44 ws).size := by simp [joinBy, ByteArray.size]
      rw [e]; omega)
    have he : (⟨(Lib.join (ws.map (·.data.toList)) (⟨#[44]⟩ : ByteArray).data.toList).toArray⟩ : ByteArray) = textS ws := by
      unfold textS
      rw [if_neg (by rw [List.isEmpty_iff]; intro e; rw [e] at h0; exact h0 rfl)]
      rfl
    rw [he] at hC
    have HC := Lib.hid hC
    clear hC he hcells h0 h
    go_enter Tryd.func64, Tryd.ntmps64
    go_wp2_with (go_at_call 38; refine HC.out.mono ?_; rintro e w' ⟨rfl, hb⟩)
    go_ret
    exact ⟨rfl, hb⟩

set_option maxHeartbeats 1000000 in
theorem listTextI_any (v : Value) (xs : List Int) (w : World) (h : RdI w v xs) (hs : Small xs) (hl : xs.length ≤ 1000000) (hp : HasPow w) :
    Calls Tryd.prog 54 #[v] w fun e w' => e = .returned (.string (listT xs)) ∧ Below w.heap.size w w' := by
  obtain ⟨a, c, rfl⟩ := h.shape
  have HR := Lib.hid h
  have HS := Lib.hid hs
  have HPW := Lib.hid hp
  clear h hs hp
  go_enter Tryd.func54, Tryd.ntmps54
  go_wp2_with fail
  go_loopw [3, 8] (fun ov iv wr => ∃ (k : Nat) (b : Option Addr) (cc : Nat), iv = .int .i64 k ∧ k ≤ xs.length ∧ ov = .slice b k cc ∧ Hid (wr.ownsRow w.heap.size 9 1 (.slice b k cc) k ((wordsN (xs.take k)).map SV)) ∧ Hid (Below w.heap.size w wr)) (fun _ iv _ => xs.length + 1 - (intOf iv).toNat)
  case atStart => exact ⟨0, none, 0, rfl, Nat.zero_le _, rfl, Lib.hid (World.ownsRow_nil _ _ _ _), Lib.hid (Below.refl _ _)⟩
  case round =>
    obtain ⟨k, b, cc, rfl, hk, rfl, HO, HB⟩ := hrel
    obtain ⟨wo, rfl⟩ : ∃ wo, wo = wr := ⟨wr, rfl⟩
    have hsz := HB.out.size
    by_cases hlt : k < xs.length
    · have hlt' : (k : Int) < xs.length := by omega
      obtain ⟨xb, xo, rfl, _, hx⟩ := (HR.out.up HB.out (Nat.le_refl _)).at hlt
      have hsm := HS.out k hlt
      have HE := Lib.hid (wordsN_take xs k hlt)
      obtain ⟨x, hxe⟩ : ∃ x, x = xs.getD k 0 := ⟨_, rfl⟩
      rw [← hxe] at hx hsm HE
      clear hxe
      obtain ⟨n, rfl⟩ : ∃ n : Nat, x = (n : Int) := ⟨x.toNat, by omega⟩
      have HE2 := Lib.hid (show wordsN (xs.take (k + 1)) = wordsN (xs.take k) ++ [decS n] from HE.out)
      have HD := Lib.hid (Decimal_any n (by omega) wo (HPW.out.up HB.out (Nat.le_refl _)))
      clear HE hsm
      go_wp2_with (first
        | (go_at_call 36; refine HD.out.mono ?_; rintro e w1 ⟨rfl, hb1⟩; have HO1 := Lib.hid (owns_below HO.out hb1 (Nat.le_refl _)); have hsz1 := hb1.size)
        | (at_builtin; refine app_strs rfl _ _ rfl w.heap.size (.slice b k cc) k (wordsN (xs.take k)) rfl (HO1.out.alloc _) _ [decS n] rfl (slcS_one w1 (decS n) _ rfl) (k + 1) (wordsN (xs.take (k + 1))) (by simp) HE2.out (by omega) (by simp; omega) ?_; intro b3 c3 w3 hown3 hbl3 _)
        | fail)
      go_roundw
      case rel => exact ⟨k + 1, b3, c3, by go_num, by omega, rfl, Lib.hid hown3, Lib.hid (HB.out.trans ((hb1.mono hsz).trans (((Below.refl _ _).alloc (by omega) _).trans hbl3)))⟩
      case measure => simp [intOf]; omega
    · obtain rfl : k = xs.length := by omega
      have hwl := wordsN_len xs
      have hws := wordsN_size HS.out
      have hrd : RdSs wo (.slice b xs.length cc) (wordsN xs) := ⟨by have := slc_of_owns HO.out; rw [List.take_length] at this; exact this, fun s hs => by have := hws s hs; simp [maxLen]; omega⟩
      have HJ := Lib.hid (joined_any _ (wordsN xs) wo hrd (fun x hx => by have := hws x hx; omega) (by omega))
      clear hwl hws hrd
      go_wp2_with (go_at_call 64; refine HJ.out.mono ?_; rintro e w1 ⟨rfl, hb1⟩)
      go_ret
      exact ⟨rfl, HB.out.trans (hb1.mono hsz)⟩

end Go.Proofs.YtggpbekclegfoaaDoor

namespace Go.Proofs.YtggpbekclegfoaaDoor
open Go.RowKit

theorem wp_app_intsL {w : World} {o : Oper} {a : Act} {K : Act → World → Prop} {Q : Exit → Act → World → Prop} (s x : Operand)
    (ho : o.op = .call { callee := .builtin .append, args := #[s, x], argTypes := #[52, 52] })
    (base : Nat) (v : Value) (n : Nat) (xs : List Int) (hs : a.eval s = v) (hown : w.ownsRow base 2 1 v n (xs.map I64))
    (sv : Value) (news : List Int) (hx : a.eval x = sv) (hsv : Slc w sv (news.map I64)) (m : Nat) (ys : List Int) (hm : m = n + news.length) (hys : ys = xs ++ news) (hlen : m ≤ 17592186044416) (hbase : base ≤ w.heap.size)
    (h : ∀ a' cap' w', w'.ownsRow base 2 1 (.slice a' m cap') m (ys.map I64) → Below base w w' → w.grownBy w' v.ownBlock → ((Value.slice a' m cap').ownBlock = v.ownBlock ∨ (Value.slice a' m cap').ownBlock = some w.heap.size) → K (a.put o.dst (.slice a' m cap')) w') :
    o.wp Tryd.prog a w K Q := by
  obtain ⟨i0, hi, hz0, hz1, hz2⟩ := info_parts Tryd.infoI64
  subst hm hys
  have hk : ∀ v' w', w'.ownsRow base 2 1 v' (n + news.length) (xs.map I64 ++ news.map I64) → w.grownBy w' v.ownBlock → (v'.ownBlock = v.ownBlock ∨ v'.ownBlock = some w.heap.size) → K (a.put o.dst v') w' := by
    intro v' w' h1 h2 h3
    have h1' : w'.ownsRow base 2 1 v' (n + news.length) ((xs ++ news).map I64) := by simpa using h1
    obtain ⟨a', cap', rfl⟩ := owns_shape h1'
    exact h a' cap' w' h1' (below_grown hown hbase h2) h2 h3
  rcases hsv with ⟨rfl, hnil⟩ | ⟨ad, cap, rfl, hcl, hcm, hc⟩
  · have hn : news = [] := by simpa using hnil
    subst hn
    have hrun := run_append_owned_none (P := Tryd.prog) (w := w) base 52 o.type 2 i0 1 Tryd.underlying52 hi v n (xs.map I64) hown
    unfold Oper.wp
    simp [execOp, ho, resolve, invoke, builtin, hs, hx, hrun, Result.andThen]
    exact hk v w (by simpa using hown) (World.grownBy.refl _ _) (.inl rfl)
  · obtain ⟨v', w', hr, h2, h3, _, h5⟩ := run_append_own_at (P := Tryd.prog) w base 52 o.type 2 i0 (.int .i64 0) 1 8 Tryd.underlying52 hi hz0 hz1 hz2 rfl (by decide) v n (xs.map I64) hown ad (news.map I64).length cap (news.map I64) (by simp) hc (i64_one news) (by simp [maxLen]; omega) (by simp; omega) hbase
    unfold Oper.wp execOp
    simp only [ho, resolve, invoke, builtin, Sem.run_bind, Sem.run_pure, Result.andThen_ok, List.map_toArray, List.map_cons, List.map_nil, hs, hx, hr]
    exact hk _ _ (by simpa using h2) h3 h5

theorem app_intsL {w : World} {ops : Array Oper} {rest : List Oper} {o : Oper} {a : Act} {Q : Exit → Act → World → Prop} (hgd : o.guard = none) (s x : Operand)
    (ho : o.op = .call { callee := .builtin .append, args := #[s, x], argTypes := #[52, 52] })
    (base : Nat) (v : Value) (n : Nat) (xs : List Int) (hs : a.eval s = v) (hown : w.ownsRow base 2 1 v n (xs.map I64))
    (sv : Value) (news : List Int) (hx : a.eval x = sv) (hsv : Slc w sv (news.map I64)) (m : Nat) (ys : List Int) (hm : m = n + news.length) (hys : ys = xs ++ news) (hlen : m ≤ 17592186044416) (hbase : base ≤ w.heap.size)
    (h : ∀ a' cap' w', w'.ownsRow base 2 1 (.slice a' m cap') m (ys.map I64) → Below base w w' → w.grownBy w' v.ownBlock → ((Value.slice a' m cap').ownBlock = v.ownBlock ∨ (Value.slice a' m cap').ownBlock = some w.heap.size) → wpList Tryd.prog ops Q rest (a.put o.dst (.slice a' m cap')) w') :
    wpList Tryd.prog ops Q (o :: rest) a w := by
  obtain ⟨i0, hi, hz0, hz1, hz2⟩ := info_parts Tryd.infoI64
  subst hm hys
  have hk : ∀ v' w', w'.ownsRow base 2 1 v' (n + news.length) (xs.map I64 ++ news.map I64) → w.grownBy w' v.ownBlock → (v'.ownBlock = v.ownBlock ∨ v'.ownBlock = some w.heap.size) → wpList Tryd.prog ops Q rest (a.put o.dst v') w' := by
    intro v' w' h1 h2 h3
    have h1' : w'.ownsRow base 2 1 v' (n + news.length) ((xs ++ news).map I64) := by simpa using h1
    obtain ⟨a', cap', rfl⟩ := owns_shape h1'
    exact h a' cap' w' h1' (below_grown hown hbase h2) h2 h3
  rcases hsv with ⟨rfl, hnil⟩ | ⟨ad, cap, rfl, hcl, hcm, hc⟩
  · have hn : news = [] := by simpa using hnil
    subst hn
    refine wpList_append_own_none hgd s x 52 ho base 2 i0 1 Tryd.underlying52 hi v n (xs.map I64) hs hown hx ?_
    exact hk v w (by simpa using hown) (World.grownBy.refl _ _) (.inl rfl)
  · refine wpList_append_own_at w hgd s x 52 ho base 2 i0 (.int .i64 0) 1 8 Tryd.underlying52 hi hz0 hz1 hz2 rfl (by decide) v n (xs.map I64) hs hown ad (news.map I64).length cap (news.map I64) hx (by simp) hc (i64_one news) (by simp [maxLen]; omega) (by simp; omega) hbase ?_
    intro v' w' h2 h3 _ h5
    exact hk v' w' (by simpa using h2) h3 h5

theorem step_app_intsL {w : World} {ops : Array Oper} {o : Oper} {a : Act} {K : Act → World → Prop} {Q : Exit → Act → World → Prop} {E : Prop} (hgd : o.guard = none) (s x : Operand)
    (ho : o.op = .call { callee := .builtin .append, args := #[s, x], argTypes := #[52, 52] })
    (base : Nat) (v : Value) (n : Nat) (xs : List Int) (hs : a.eval s = v) (hown : w.ownsRow base 2 1 v n (xs.map I64))
    (sv : Value) (news : List Int) (hx : a.eval x = sv) (hsv : Slc w sv (news.map I64)) (m : Nat) (ys : List Int) (hm : m = n + news.length) (hys : ys = xs ++ news) (hlen : m ≤ 17592186044416) (hbase : base ≤ w.heap.size)
    (h : ∀ a' cap' w', w'.ownsRow base 2 1 (.slice a' m cap') m (ys.map I64) → Below base w w' → w.grownBy w' v.ownBlock → ((Value.slice a' m cap').ownBlock = v.ownBlock ∨ (Value.slice a' m cap').ownBlock = some w.heap.size) → K (a.put o.dst (.slice a' m cap')) w') :
    if Region.wanted o (yielded ops a.tmps) = true then Oper.wp Tryd.prog o a w K Q else E := by
  have hw : Region.wanted o (yielded ops a.tmps) = true := by simp [Region.wanted, hgd]
  rw [if_pos hw]
  exact wp_app_intsL s x ho base v n xs hs hown sv news hx hsv m ys hm hys hlen hbase h

theorem blkI_newB (w : World) (t : TypeId) (cs : Array Value) (b : Nat) (hb : b = w.heap.size) : Blk (w.alloc (.cells cs t)) b t cs := by subst hb; exact Blk.new w t cs
theorem blkI_grown {w w' : World} {b : Nat} {t : TypeId} {cs : Array Value} {row : Option Nat} (h : Blk w b t cs) (hg : w.grownBy w' row) (hne : row ≠ some b) : Blk w' b t cs :=
  (hg.block b h.lt (fun e => hne e.symm)).trans h
theorem OwnI.blk {lo hi : Nat} {w : World} {v : Value} {xs : List Int} (h : OwnI lo hi w v xs) {b : Nat} (hb : v.ownBlock = some b) : lo ≤ b ∧ b < hi := ⟨(owns_lt h.1 hb).1, h.2 b hb⟩

/-- Another list stays its own where one has grown. -/
theorem ownI_grown {lo hi : Nat} {w w' : World} {v u : Value} {xs : List Int} (h : OwnI lo hi w v xs) (hg : w.grownBy w' u.ownBlock) (hn : ∀ g, v.ownBlock = some g → u.ownBlock ≠ some g) : OwnI lo hi w' v xs := by
  refine ⟨owns_kept (S := fun k => u.ownBlock = some k) h.1 ⟨hg.os, hg.tape, hg.output, hg.size, fun k hk hs => hg.block k hk fun e => hs e.symm⟩ hn, h.2⟩
end Go.Proofs.YtggpbekclegfoaaDoor
