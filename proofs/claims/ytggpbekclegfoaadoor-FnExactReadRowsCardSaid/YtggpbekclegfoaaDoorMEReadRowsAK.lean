/-
  FnExactReadRows: texts joined: AppL, TextS, RdS, JtxI.
-/
import Derived.Maps.AppendAt
import Derived.Deep.RegionLaw
import Derived.Test.YtggpbekclegfoaaDoorMEReadRowsAB
import Derived.Test.YtggpbekclegfoaaDoorMEReadRowsAD
import Derived.Test.YtggpbekclegfoaaDoorMEReadRowsAE
import Derived.Test.YtggpbekclegfoaaDoorMEReadRowsAF
import Derived.Test.YtggpbekclegfoaaDoorMEReadRowsAJ
namespace Go.Proofs.YtggpbekclegfoaaDoor
open Go.RowKit

theorem wp_app_intsL {w : World} {o : Oper} {a : Act} {K : Act → World → Prop} {Q : Exit → Act → World → Prop} (s x : Operand)
    (ho : o.op = .call { callee := .builtin .append, args := #[s, x], argTypes := #[52, 52] })
    (base : Nat) (v : Value) (n : Nat) (xs : List Int) (hs : a.eval s = v) (hown : w.ownsRow base 2 1 v n (xs.map I64))
    (sv : Value) (news : List Int) (hx : a.eval x = sv) (hsv : Slc w sv (news.map I64)) (m : Nat) (ys : List Int) (hm : m = n + news.length) (hys : ys = xs ++ news) (hlen : m ≤ 17592186044416) (hbase : base ≤ w.heap.size)
    (h : ∀ a' cap' w', w'.ownsRow base 2 1 (.slice a' m cap') m (ys.map I64) → Below base w w' → w.grownBy w' v.ownBlock → ((Value.slice a' m cap').ownBlock = v.ownBlock ∨ (Value.slice a' m cap').ownBlock = some w.heap.size) → K (a.put o.dst (.slice a' m cap')) w') :
    o.wp Tryd.prog a w K Q := by
  obtain ⟨i0, hi, hz0, hz1, hz2⟩ := info_parts Tryd.infoI64
  subst hm hys
  have hk : ∀ v' w', w'.ownsRow base 2 1 v' (n + news.length) (xs.map I64 ++ news.map I64) → w.grownBy w' v.ownBlock → (v'.ownBlock = v.ownBlock ∨ v'.ownBlock = some w.heap.size) → K (a.put o.dst v') w' := by
    intro v' w' h1 h2 h3
    have h1' : w'.ownsRow base 2 1 v' (n + news.length) ((xs ++ news).map I64) := by simpa using h1
    obtain ⟨a', cap', rfl⟩ := owns_shape h1'
    exact h a' cap' w' h1' (below_grown hown hbase h2) h2 h3
  rcases hsv with ⟨rfl, hnil⟩ | ⟨ad, cap, rfl, hcl, hcm, hc⟩
  · have hn : news = [] := by simpa using hnil
    subst hn
    have hrun := run_append_owned_none (P := Tryd.prog) (w := w) base 52 o.type 2 i0 1 Tryd.underlying52 hi v n (xs.map I64) hown
    unfold Oper.wp
    simp [execOp, ho, resolve, invoke, builtin, hs, hx, hrun, Result.andThen]
    exact hk v w (by simpa using hown) (World.grownBy.refl _ _) (.inl rfl)
  · obtain ⟨v', w', hr, h2, h3, _, h5⟩ := run_append_own_at (P := Tryd.prog) w base 52 o.type 2 i0 (.int .i64 0) 1 8 Tryd.underlying52 hi hz0 hz1 hz2 rfl (by decide) v n (xs.map I64) hown ad (news.map I64).length cap (news.map I64) (by simp) hc (i64_one news) (by simp [maxLen]; omega) (by simp; omega) hbase
    unfold Oper.wp execOp
    simp only [ho, resolve, invoke, builtin, Sem.run_bind, Sem.run_pure, Result.andThen_ok, List.map_toArray, List.map_cons, List.map_nil, hs, hx, hr]
    exact hk _ _ (by simpa using h2) h3 h5

theorem app_intsL {w : World} {ops : Array Oper} {rest : List Oper} {o : Oper} {a : Act} {Q : Exit → Act → World → Prop} (hgd : o.guard = none) (s x : Operand)
    (ho : o.op = .call { callee := .builtin .append, args := #[s, x], argTypes := #[52, 52] })
    (base : Nat) (v : Value) (n : Nat) (xs : List Int) (hs : a.eval s = v) (hown : w.ownsRow base 2 1 v n (xs.map I64))
    (sv : Value) (news : List Int) (hx : a.eval x = sv) (hsv : Slc w sv (news.map I64)) (m : Nat) (ys : List Int) (hm : m = n + news.length) (hys : ys = xs ++ news) (hlen : m ≤ 17592186044416) (hbase : base ≤ w.heap.size)
    (h : ∀ a' cap' w', w'.ownsRow base 2 1 (.slice a' m cap') m (ys.map I64) → Below base w w' → w.grownBy w' v.ownBlock → ((Value.slice a' m cap').ownBlock = v.ownBlock ∨ (Value.slice a' m cap').ownBlock = some w.heap.size) → wpList Tryd.prog ops Q rest (a.put o.dst (.slice a' m cap')) w') :
    wpList Tryd.prog ops Q (o :: rest) a w := by
  obtain ⟨i0, hi, hz0, hz1, hz2⟩ := info_parts Tryd.infoI64
  subst hm hys
  have hk : ∀ v' w', w'.ownsRow base 2 1 v' (n + news.length) (xs.map I64 ++ news.map I64) → w.grownBy w' v.ownBlock → (v'.ownBlock = v.ownBlock ∨ v'.ownBlock = some w.heap.size) → wpList Tryd.prog ops Q rest (a.put o.dst v') w' := by
    intro v' w' h1 h2 h3
    have h1' : w'.ownsRow base 2 1 v' (n + news.length) ((xs ++ news).map I64) := by simpa using h1
    obtain ⟨a', cap', rfl⟩ := owns_shape h1'
    exact h a' cap' w' h1' (below_grown hown hbase h2) h2 h3
  rcases hsv with ⟨rfl, hnil⟩ | ⟨ad, cap, rfl, hcl, hcm, hc⟩
  · have hn : news = [] := by simpa using hnil
    subst hn
    refine wpList_append_own_none hgd s x 52 ho base 2 i0 1 Tryd.underlying52 hi v n (xs.map I64) hs hown hx ?_
    exact hk v w (by simpa using hown) (World.grownBy.refl _ _) (.inl rfl)
  · refine wpList_append_own_at w hgd s x 52 ho base 2 i0 (.int .i64 0) 1 8 Tryd.underlying52 hi hz0 hz1 hz2 rfl (by decide) v n (xs.map I64) hs hown ad (news.map I64).length cap (news.map I64) hx (by simp) hc (i64_one news) (by simp [maxLen]; omega) (by simp; omega) hbase ?_
    intro v' w' h2 h3 _ h5
    exact hk v' w' (by simpa using h2) h3 h5

theorem step_app_intsL {w : World} {ops : Array Oper} {o : Oper} {a : Act} {K : Act → World → Prop} {Q : Exit → Act → World → Prop} {E : Prop} (hgd : o.guard = none) (s x : Operand)
    (ho : o.op = .call { callee := .builtin .append, args := #[s, x], argTypes := #[52, 52] })
    (base : Nat) (v : Value) (n : Nat) (xs : List Int) (hs : a.eval s = v) (hown : w.ownsRow base 2 1 v n (xs.map I64))
    (sv : Value) (news : List Int) (hx : a.eval x = sv) (hsv : Slc w sv (news.map I64)) (m : Nat) (ys : List Int) (hm : m = n + news.length) (hys : ys = xs ++ news) (hlen : m ≤ 17592186044416) (hbase : base ≤ w.heap.size)
    (h : ∀ a' cap' w', w'.ownsRow base 2 1 (.slice a' m cap') m (ys.map I64) → Below base w w' → w.grownBy w' v.ownBlock → ((Value.slice a' m cap').ownBlock = v.ownBlock ∨ (Value.slice a' m cap').ownBlock = some w.heap.size) → K (a.put o.dst (.slice a' m cap')) w') :
    if Region.wanted o (yielded ops a.tmps) = true then Oper.wp Tryd.prog o a w K Q else E := by
  have hw : Region.wanted o (yielded ops a.tmps) = true := by simp [Region.wanted, hgd]
  rw [if_pos hw]
  exact wp_app_intsL s x ho base v n xs hs hown sv news hx hsv m ys hm hys hlen hbase h

theorem blkI_newB (w : World) (t : TypeId) (cs : Array Value) (b : Nat) (hb : b = w.heap.size) : Blk (w.alloc (.cells cs t)) b t cs := by subst hb; exact Blk.new w t cs
theorem blkI_grown {w w' : World} {b : Nat} {t : TypeId} {cs : Array Value} {row : Option Nat} (h : Blk w b t cs) (hg : w.grownBy w' row) (hne : row ≠ some b) : Blk w' b t cs :=
  (hg.block b h.lt (fun e => hne e.symm)).trans h
theorem OwnI.blk {lo hi : Nat} {w : World} {v : Value} {xs : List Int} (h : OwnI lo hi w v xs) {b : Nat} (hb : v.ownBlock = some b) : lo ≤ b ∧ b < hi := ⟨(owns_lt h.1 hb).1, h.2 b hb⟩

/-- Another list stays its own where one has grown. -/
theorem ownI_grown {lo hi : Nat} {w w' : World} {v u : Value} {xs : List Int} (h : OwnI lo hi w v xs) (hg : w.grownBy w' u.ownBlock) (hn : ∀ g, v.ownBlock = some g → u.ownBlock ≠ some g) : OwnI lo hi w' v xs := by
  refine ⟨owns_kept (S := fun k => u.ownBlock = some k) h.1 ⟨hg.os, hg.tape, hg.output, hg.size, fun k hk hs => hg.block k hk fun e => hs e.symm⟩ hn, h.2⟩
end Go.Proofs.YtggpbekclegfoaaDoor

namespace Go.Proofs.YtggpbekclegfoaaDoor
open Go.RowKit

theorem jnK_size {xs : List Int} (h : Small xs) (k : Nat) : (jnK 44 (wordsN xs) k).size ≤ 19 * xs.length := by
  have h1 := joinBy_size 44 ((wordsN xs).take k) 18 (fun x hx => wordsN_size h x (List.mem_of_mem_take hx))
  have h2 : ((wordsN xs).take k).length ≤ xs.length := by rw [List.length_take, wordsN_len]; omega
  have h3 := Nat.mul_le_mul_left 19 h2
  unfold jnK
  omega

set_option maxHeartbeats 1000000 in
theorem l01Text_any (v : Value) (xs : List Int) (w : World) (h : RdI w v xs) (hs : Small xs) (hl : xs.length ≤ 1000000) :
    Calls Tryd.prog 50 #[v] w fun e w' => e = .returned (.string (listT xs)) ∧ Below w.heap.size w w' := by
  obtain ⟨a, c, rfl⟩ := h.shape
  have HR := Lib.hid h
  have HS := Lib.hid hs
  clear h hs
  by_cases h0 : xs.length = 0
  · have hd : ((xs.length : Int) == 0) = true := by simp [h0]
    have he := Lib.hid (show listT xs = noneS by unfold listT textS; rw [show (wordsN xs).isEmpty = true by rw [List.isEmpty_iff]; exact List.length_eq_zero_iff.1 (by rw [wordsN_len]; exact h0)]; rfl)
    clear h0
    go_enter Tryd.func50, Tryd.ntmps50
    go_wp2_with fail
    go_ret
    exact ⟨by rw [he.out]; rfl, Below.refl _ _⟩
  have hpos : 0 < xs.length := Nat.pos_of_ne_zero h0
  have hd : ((xs.length : Int) == 0) = false := by rw [beq_eq_false_iff_ne]; omega
  have hposI : (0 : Int) < xs.length := by omega
  clear h0
  have HLT := Lib.hid (show listT xs = jnK 44 (wordsN xs) xs.length by
    have := jnK_all 44 (wordsN xs)
    rw [wordsN_len] at this
    rw [this]
    unfold listT textS
    rw [if_neg (by rw [List.isEmpty_iff]; intro e; have := congrArg List.length e; rw [wordsN_len, List.length_nil] at this; omega)])
  obtain ⟨xb, xo, rfl, _, hx⟩ := HR.out.at (i := 0) hpos
  have hsm := HS.out 0 hpos
  have H1 := Lib.hid (show jnK 44 (wordsN xs) 1 = decS (xs.getD 0 0).toNat by rw [jnK_one _ _ (by rw [wordsN_len]; exact hpos), wordsN_at xs 0 hpos])
  obtain ⟨x, hxe⟩ : ∃ x, x = xs.getD 0 0 := ⟨_, rfl⟩
  rw [← hxe] at hx hsm H1
  clear hxe
  obtain ⟨n, rfl⟩ : ∃ n : Nat, x = (n : Int) := ⟨x.toNat, by omega⟩
  rw [Nat.add_zero] at hx
  have HD := Lib.hid (l01Dec_any n (by omega))
  have H2 := Lib.hid (show jnK 44 (wordsN xs) 1 = decS n from H1.out)
  clear hsm H1
  go_enter Tryd.func50, Tryd.ntmps50
  go_wp2_with (go_at_call 58; refine (HD.out _).mono ?_; rintro e w1 ⟨rfl, hb1⟩)
  have HB1 := Lib.hid hb1
  clear hb1 HD
  rw [← H2.out]
  go_loopw [3, 4] (fun sv iv wr => ∃ k : Nat, iv = .int .i64 k ∧ 1 ≤ k ∧ k ≤ xs.length ∧ sv = .string (jnK 44 (wordsN xs) k) ∧ Hid (Below w.heap.size w wr)) (fun _ iv _ => xs.length + 1 - (intOf iv).toNat)
  case atStart => exact ⟨1, rfl, Nat.le_refl _, hpos, rfl, HB1⟩
  case round =>
    clear HB1
    obtain ⟨k, rfl, hk1, hk, rfl, HB⟩ := hrel
    obtain ⟨wo, rfl⟩ : ∃ wo, wo = wr := ⟨wr, rfl⟩
    have hsz := HB.out.size
    by_cases hlt : k < xs.length
    · have hlt' : (k : Int) < xs.length := by omega
      obtain ⟨xb2, xo2, ee, _, hy⟩ := (HR.out.up HB.out (Nat.le_refl _)).at hlt
      simp only [Option.some.injEq, Addr.mk.injEq, and_true] at ee
      obtain ⟨rfl, rfl⟩ := ee
      have hsm := HS.out k hlt
      have HE := Lib.hid (show jnK 44 (wordsN xs) (k + 1) = jnK 44 (wordsN xs) k ++ B1 44 ++ decS (xs.getD k 0).toNat by rw [jnK_succ 44 (wordsN xs) k (by rw [wordsN_len]; exact hlt) hk1, wordsN_at xs k hlt])
      have hjs := jnK_size HS.out k
      obtain ⟨y, hye⟩ : ∃ y, y = xs.getD k 0 := ⟨_, rfl⟩
      rw [← hye] at hy hsm HE
      clear hye
      obtain ⟨m, rfl⟩ : ∃ m : Nat, y = (m : Int) := ⟨y.toNat, by omega⟩
      obtain ⟨S, hS⟩ : ∃ S, S = jnK 44 (wordsN xs) k := ⟨_, rfl⟩
      rw [← hS] at HE hjs ⊢
      have hds := decS_size (n := m) (by omega)
      have HD := Lib.hid (l01Dec_any m (by omega))
      have HE2 := Lib.hid (show jnK 44 (wordsN xs) (k + 1) = S ++ B1 44 ++ decS m from HE.out)
      obtain ⟨D, hD⟩ : ∃ D, D = decS m := ⟨_, rfl⟩
      rw [← hD] at HD HE2 hds
      have n1 : ¬ 9223372036854775807 < 1 + D.size := by omega
      have n2 : ¬ 9223372036854775807 < S.size + (1 + D.size) := by omega
      clear hS hD HE hsm
      go_wp2_with (go_at_call 58; refine (HD.out _).mono ?_; rintro e w2 ⟨rfl, hb2⟩)
      go_roundw
      case rel => exact ⟨k + 1, by go_num, by omega, by omega, by rw [HE2.out, ByteArray.append_assoc]; rfl, Lib.hid (HB.out.trans (hb2.mono hsz))⟩
      case measure => simp [intOf]; omega
    · obtain rfl : k = xs.length := by omega
      go_wp2_with fail
      go_ret
      exact ⟨by rw [HLT.out]; rfl, HB.out⟩

/-! ### The numbers of jobs -/
def jobNums (j : JobD) : List Int := [j.long, j.due, j.weight, j.ready]
def numsK (js : List JobD) (k : Nat) : List Int := (js.take k).flatMap jobNums
theorem numsK_succ (js : List JobD) (k : Nat) (h : k < js.length) : numsK js (k + 1) = numsK js k ++ jobNums (js.getD k J0) := by
  unfold numsK
  rw [List.take_add_one, List.flatMap_append, List.getElem?_eq_getElem h, List.getD_eq_getElem?_getD, List.getElem?_eq_getElem h]
  simp
theorem numsK_len (js : List JobD) : ∀ k, k ≤ js.length → (numsK js k).length = 4 * k
  | 0, _ => by simp [numsK]
  | k + 1, h => by rw [numsK_succ js k (by omega), List.length_append, numsK_len js k (by omega)]; simp [jobNums]; omega
theorem slcI_four (w : World) (a b c d : Int) (B : Nat) (hB : B = w.heap.size) : Slc (w.alloc (.cells #[.int .i64 a, .int .i64 b, .int .i64 c, .int .i64 d] 2)) (.slice (some ⟨B, 0, none⟩) 4 4) ([a, b, c, d].map I64) := by
  subst hB
  have h := World.ownsRow_lit (base := w.heap.size) (e := 2) (size := 1) w #[.int .i64 a, .int .i64 b, .int .i64 c, .int .i64 d] 4 (Nat.le_refl _) (by simp [maxLen]) rfl
  exact slc_of_owns h
/-- All numbers of jobs are small. -/
theorem nums_small {js : List JobD} (h : areJobsB js = true) : ∀ x, x ∈ numsK js js.length → 0 ≤ x ∧ x ≤ 100000 := by
  unfold areJobsB at h
  rw [Bool.and_eq_true, inB_iff, allB_iff] at h
  intro x hx
  unfold numsK at hx
  rw [List.take_length, List.mem_flatMap] at hx
  obtain ⟨j, hj, hx⟩ := hx
  obtain ⟨i, hi, rfl⟩ := List.mem_iff_getElem.1 hj
  have := h.2 i hi
  rw [List.getD_eq_getElem?_getD, List.getElem?_eq_getElem hi] at this
  unfold jobB at this
  simp only [Option.getD_some, Bool.and_eq_true, inB_iff] at this
  unfold jobNums at hx
  simp only [List.mem_cons, List.not_mem_nil, or_false] at hx
  rcases hx with rfl | rfl | rfl | rfl <;> omega
theorem nums_sm {js : List JobD} (h : areJobsB js = true) : Small (numsK js js.length) := by
  intro k hk
  have := nums_small h ((numsK js js.length).getD k 0) (by rw [List.getD_eq_getElem?_getD, List.getElem?_eq_getElem hk]; exact List.getElem_mem _)
  omega
def jobT (js : List JobD) : ByteArray := if areJobsB js = true then listT (numsK js js.length) else E0

set_option maxHeartbeats 1000000 in
set_option maxRecDepth 4000 in
theorem l08Jobs_any (v : Value) (js : List JobD) (w : World) (h : RdJ w v js) (hj : areJobsB js = true) :
    Calls Tryd.prog 26 #[v] w fun e w' => e = .returned (.string (listT (numsK js js.length))) ∧ Below w.heap.size w w' := by
  have hn : js.length ≤ 12 := by
    unfold areJobsB at hj
    rw [Bool.and_eq_true, inB_iff] at hj
    omega
  have HSM := Lib.hid (nums_sm hj)
  obtain ⟨a, c, rfl⟩ := h.shape
  have HR := Lib.hid h
  clear h hj
  go_enter Tryd.func26, Tryd.ntmps26
  go_wp2_with fail
  go_loopw [3, 4] (fun ov iv wr => ∃ (k m : Nat) (b : Option Addr) (cc : Nat), iv = .int .i64 k ∧ k ≤ js.length ∧ m = 4 * k ∧ ov = .slice b m cc ∧ Hid (wr.ownsRow w.heap.size 2 1 (.slice b m cc) m ((numsK js k).map I64)) ∧ Hid (Below w.heap.size w wr)) (fun _ iv _ => js.length + 1 - (intOf iv).toNat)
  case atStart => exact ⟨0, 0, _, _, rfl, Nat.zero_le _, rfl, rfl, Lib.hid (owns_empty w), Lib.hid ((Below.refl _ _).alloc (Nat.le_refl _) _)⟩
  case round =>
    obtain ⟨k, m, b, cc, rfl, hk, hm, rfl, HO, HB⟩ := hrel
    obtain ⟨wo, rfl⟩ : ∃ wo, wo = wr := ⟨wr, rfl⟩
    have hsz := HB.out.size
    by_cases hlt : k < js.length
    · have hlt' : (k : Int) < js.length := by omega
      obtain ⟨jb, jo, rfl, hjb, d0, d1, d2, d3⟩ := (HR.out.up HB.out (Nat.le_refl _)).at hlt
      have HE := Lib.hid (numsK_succ js k hlt)
      obtain ⟨j, hje⟩ : ∃ j, j = js.getD k J0 := ⟨_, rfl⟩
      rw [← hje] at d0 d1 d2 d3 HE
      have HE2 := Lib.hid (show numsK js (k + 1) = numsK js k ++ [j.long, j.due, j.weight, j.ready] from HE.out)
      have hlw : Below w.heap.size wo (wo.drew.alloc (.cells #[.int .i64 j.long, .int .i64 j.due, .int .i64 j.weight, .int .i64 j.ready] 2)) := ((Below.refl _ _).drew).alloc hsz _
      have HLW := Lib.hid hlw
      have hm4 : m + 4 ≤ 1000 := by omega
      have HM := Lib.hid hm
      clear hje HE hlw hm
      go_wp2_with fail
      go_region_law (refine step_app_intsL rfl (.tmp 12) (.tmp 33) rfl w.heap.size (.slice b m cc) m (numsK js k) (by simp [Act.eval, Act.put]) (HO.out.drew.alloc _) _ [j.long, j.due, j.weight, j.ready] (by simp [Act.eval, Act.put]) (slcI_four _ _ _ _ _ _ rfl) (m + 4) (numsK js (k + 1)) (by simp) HE2.out (by omega) (by simp; omega) ?_; intro b3 c3 w3 hown3 hbl3 _ _)
      all_goals
        go_wp2_with fail
        go_roundw
        case rel => exact ⟨k + 1, m + 4, b3, c3, by go_num, by omega, by have := HM.out; omega, rfl, Lib.hid hown3, Lib.hid (HB.out.trans (HLW.out.trans hbl3))⟩
        case measure => simp [intOf]; omega
    · obtain rfl : k = js.length := by omega
      have hrd : RdI wo (.slice b m cc) (numsK js js.length) := slc_of_owns HO.out
      have hnl := numsK_len js js.length (Nat.le_refl _)
      have HT := Lib.hid (l01Text_any _ (numsK js js.length) wo hrd HSM.out (by omega))
      clear hrd hnl hm
      go_wp2_with (go_at_call 50; refine HT.out.mono ?_; rintro e w1 ⟨rfl, hb1⟩)
      go_ret
      exact ⟨rfl, HB.out.trans (hb1.mono hsz)⟩

theorem jobsTextS_any (v : Value) (js : List JobD) (w : World) (h : RdJ w v js) :
    Calls Tryd.prog 8 #[v] w fun e w' => e = .returned (.tuple #[.string (jobT js), .bool (areJobsB js)]) ∧ Below w.heap.size w w' := by
  have HA := Lib.hid (l06Are_any v js w h)
  obtain ⟨q, hq⟩ : ∃ q, areJobsB js = q := ⟨_, rfl⟩
  rw [hq] at HA ⊢
  have HQ := Lib.hid hq
  clear hq
  go_enter Tryd.func8, Tryd.ntmps8
  cases q
  · clear h
    go_wp2_with (go_at_call 25; refine HA.out.mono ?_; rintro e w' ⟨rfl, rfl⟩)
    go_ret2
    exact ⟨by rw [show jobT js = E0 by unfold jobT; rw [HQ.out]; rfl]; rfl, Below.refl _ _⟩
  · have HJ := Lib.hid (l08Jobs_any v js w h HQ.out)
    clear h
    go_wp2_with (first
      | (go_at_call 25; refine HA.out.mono ?_; rintro e w' ⟨rfl, rfl⟩)
      | (go_at_call 26; refine HJ.out.mono ?_; rintro e w1 ⟨rfl, hb⟩))
    go_ret2
    exact ⟨by rw [show jobT js = listT (numsK js js.length) by unfold jobT; rw [HQ.out]; rfl]; rfl, hb⟩

end Go.Proofs.YtggpbekclegfoaaDoor

namespace Go.Proofs.YtggpbekclegfoaaDoor
open Go.RowKit

theorem itoaB_neg (n : Nat) (h : 1 ≤ n) : itoaB (-(n : Int)) = strOfNums ([45] ++ digI n) := by
  have e : (-(n : Int)).natAbs = n := by omega
  unfold itoaB Lib.itoa strOfNums digI
  rw [if_pos (by omega), e]
  congr 2
  rw [List.map_append, List.map_map]
  show 45 :: _ = 45 :: _
  congr 1
  conv => lhs; rw [← List.map_id (Lib.decDigits n)]
  refine List.map_congr_left fun b _ => ?_
  simp

set_option maxHeartbeats 2000000 in
set_option maxRecDepth 4000 in
theorem l01DecNeg_any (n : Nat) (hn : n < 1000000000000000000) (hn1 : 1 ≤ n) (w : World) :
    Calls Tryd.prog 58 #[.int .i64 (-(n : Int))] w fun e w' => e = .returned (.string (itoaB (-(n : Int)))) ∧ Below w.heap.size w w' := by
  have HL := Lib.hid (digI_len20 hn)
  have HS := Lib.hid (itoaB_neg n hn1).symm
  have hnegI : -(n : Int) < 0 := by omega
  obtain ⟨R, hR⟩ : ∃ R, R = itoaB (-(n : Int)) := ⟨_, rfl⟩
  rw [← hR] at HS ⊢
  clear hR
  go_enter Tryd.func58, Tryd.ntmps58
  go_upto_region 3 with fail
  refine wp_at fun W1 hW1 => ?_
  have HO0 := Lib.hid (show W1.ownsRow w.heap.size 5 1 (.slice (some ⟨w.heap.size, 0, none⟩) 0 0) 0 (([] : List Int).map B8) by subst hW1; exact ownsB_lit w [] 0 w.heap.size #[] rfl rfl (by omega) rfl)
  have HB0 := Lib.hid (show Below w.heap.size w W1 by subst hW1; exact (Below.refl _ _).alloc (Nat.le_refl _) _)
  clear hW1
  go_loopw [3, 4] (fun ov rv wr => ∃ (m k : Nat) (L : List Int) (a : Option Addr) (cap : Nat), ov = .slice a k cap ∧ rv = .int .i64 (-(m : Int)) ∧ k ≤ 18 ∧ m ≤ n ∧ Hid (L.length = k) ∧ Hid (wr.ownsRow w.heap.size 5 1 (.slice a k cap) k (L.map B8)) ∧ Hid ((L = [] ∧ m = n) ∨ (L ≠ [] ∧ digI n = (if m = 0 then [] else digI m) ++ L)) ∧ Hid (Below w.heap.size w wr)) (fun ov rv _ => (intOf rv).natAbs * 2 + (match ov with | .slice _ 0 _ => 1 | _ => 0))
  case atStart => exact ⟨n, 0, [], _, _, rfl, rfl, by omega, Nat.le_refl _, Lib.hid rfl, HO0, Lib.hid (.inl ⟨rfl, rfl⟩), HB0⟩
  case round =>
    clear HO0 HB0
    obtain ⟨m, k, L, a, cap, rfl, rfl, hk, hm, HK, HO, HD, HB⟩ := hrel
    by_cases hgo : k = 0 ∨ m ≠ 0
    · have hm0 : m ≠ 0 := by
        rcases hgo with h | h
        · rcases HD.out with ⟨_, h2⟩ | ⟨h1, _⟩
          · omega
          · exact absurd (List.length_eq_zero_iff.1 (HK.out.trans h)) h1
        · exact h
      have HST := Lib.hid (show digI n = (if m / 10 = 0 then [] else digI (m / 10)) ++ ([48 + ((m % 10 : Nat) : Int)] ++ L) by
        rcases HD.out with ⟨h1, h2⟩ | ⟨h1, h2⟩
        · subst h1 h2
          exact digI_step m
        · rw [h2, if_neg hm0, digI_step m, List.append_assoc])
      have HK1 := Lib.hid (show k + 1 ≤ 18 by
        have h1 := HL.out
        rw [HST.out] at h1
        have h2 := HK.out
        simp only [List.length_append, List.length_cons, List.length_nil] at h1
        omega)
      have hwq : (-(m : Int)).tdiv 10 = -((m / 10 : Nat) : Int) := by rw [Int.neg_tdiv, Int.tdiv_eq_ediv_of_nonneg (by omega)]; omega
      have hwr : (-(m : Int)).tmod 10 = -((m % 10 : Nat) : Int) := by rw [Int.neg_tmod, Int.tmod_eq_emod_of_nonneg (by omega)]; omega
      have hr10 : m % 10 < 10 := Nat.mod_lt _ (by omega)
      have hq10 : m / 10 < m := Nat.div_lt_self (by omega) (by omega)
      obtain ⟨r, hr⟩ : ∃ r, r = m % 10 := ⟨_, rfl⟩
      obtain ⟨q, hq⟩ : ∃ q, q = m / 10 := ⟨_, rfl⟩
      rw [← hr] at hwr hr10 HST
      rw [← hq] at hwq hq10 HST
      clear hr hq
      have hwb : IntKind.u8.wrap (48 + (r : Int)) = 48 + (r : Int) := by simp [IntKind.wrap, IntKind.bits, IntKind.signed]; omega
      have hsz := HB.out.size
      have hmI : (-(m : Int) != 0) = true := by simp; omega
      rcases (show (r = 0 ∨ (r ≠ 0 ∧ -(r : Int) < 0)) by omega) with hr0 | ⟨hr0, hrn⟩
      · subst hr0
        have hwr0 : (-(m : Int)).tmod 10 = 0 := by simpa using hwr
        rw [show (48 : Int) + ((0 : Nat) : Int) = 48 from rfl] at HST
        clear hwr hwb
        rcases (show k = 0 ∨ k ≠ 0 by omega) with hk0 | hk0
        · subst hk0
          go_wp2_with (at_builtin; refine app_bytes rfl _ _ rfl w.heap.size _ 1 [48] rfl (owns_base (ownsB_lit wr [48] 1 _ _ rfl rfl (by omega) rfl) hsz) _ L rfl (slc_of_owns (owns_below HO.out ((Below.refl _ _).alloc (Nat.le_refl _) _) (Nat.le_refl _))) (0 + 1) ([48] ++ L) (by have := HK.out; omega) rfl (by omega) (by simp; omega) ?_; intro a' cap' w' r1 r2 _)
          go_roundw
          case rel => exact ⟨q, 0 + 1, [48] ++ L, a', cap', rfl, by go_num, HK1.out, by omega, Lib.hid (by have := HK.out; rw [List.length_append, this]; simp; try omega), Lib.hid r1, Lib.hid (.inr ⟨by simp, HST.out⟩), Lib.hid ((HB.out.alloc hsz _).trans r2)⟩
          case measure => simp [intOf]; omega
        · have hkI : ((k : Int) == 0) = false := by simp; omega
          go_wp2_with (at_builtin; refine app_bytes rfl _ _ rfl w.heap.size _ 1 [48] rfl (owns_base (ownsB_lit wr [48] 1 _ _ rfl rfl (by omega) rfl) hsz) _ L rfl (slc_of_owns (owns_below HO.out ((Below.refl _ _).alloc (Nat.le_refl _) _) (Nat.le_refl _))) (k + 1) ([48] ++ L) (by have := HK.out; omega) rfl (by omega) (by simp; omega) ?_; intro a' cap' w' r1 r2 _)
          go_roundw
          case rel => exact ⟨q, k + 1, [48] ++ L, a', cap', by go_num, by go_num, HK1.out, by omega, Lib.hid (by have := HK.out; rw [List.length_append, this]; simp; try omega), Lib.hid r1, Lib.hid (.inr ⟨by simp, HST.out⟩), Lib.hid ((HB.out.alloc hsz _).trans r2)⟩
          case measure => simp [intOf]; omega
      · rcases (show k = 0 ∨ k ≠ 0 by omega) with hk0 | hk0
        · subst hk0
          go_wp2_with (at_builtin; refine app_bytes rfl _ _ rfl w.heap.size _ 1 [48 + (r : Int)] rfl (owns_base (ownsB_lit wr [48 + (r : Int)] 1 _ _ rfl rfl (by omega) rfl) hsz) _ L rfl (slc_of_owns (owns_below HO.out ((Below.refl _ _).alloc (Nat.le_refl _) _) (Nat.le_refl _))) (0 + 1) ([48 + (r : Int)] ++ L) (by have := HK.out; omega) rfl (by omega) (by simp; omega) ?_; intro a' cap' w' r1 r2 _)
          go_roundw
          case rel => exact ⟨q, 0 + 1, [48 + (r : Int)] ++ L, a', cap', rfl, by go_num, HK1.out, by omega, Lib.hid (by have := HK.out; rw [List.length_append, this]; simp; try omega), Lib.hid r1, Lib.hid (.inr ⟨by simp, HST.out⟩), Lib.hid ((HB.out.alloc hsz _).trans r2)⟩
          case measure => simp [intOf]; omega
        · have hkI : ((k : Int) == 0) = false := by simp; omega
          go_wp2_with (at_builtin; refine app_bytes rfl _ _ rfl w.heap.size _ 1 [48 + (r : Int)] rfl (owns_base (ownsB_lit wr [48 + (r : Int)] 1 _ _ rfl rfl (by omega) rfl) hsz) _ L rfl (slc_of_owns (owns_below HO.out ((Below.refl _ _).alloc (Nat.le_refl _) _) (Nat.le_refl _))) (k + 1) ([48 + (r : Int)] ++ L) (by have := HK.out; omega) rfl (by omega) (by simp; omega) ?_; intro a' cap' w' r1 r2 _)
          go_roundw
          case rel => exact ⟨q, k + 1, [48 + (r : Int)] ++ L, a', cap', by go_num, by go_num, HK1.out, by omega, Lib.hid (by have := HK.out; rw [List.length_append, this]; simp; try omega), Lib.hid r1, Lib.hid (.inr ⟨by simp, HST.out⟩), Lib.hid ((HB.out.alloc hsz _).trans r2)⟩
          case measure => simp [intOf]; omega
    · obtain ⟨hk0, rfl⟩ : k ≠ 0 ∧ m = 0 := by omega
      have hkI : ((k : Int) == 0) = false := by simp; omega
      have HE := Lib.hid (show L = digI n by
        rcases HD.out with ⟨h1, h2⟩ | ⟨h1, h2⟩
        · exact absurd (by rw [← HK.out, h1]; rfl) hk0
        · rw [h2, if_pos rfl, List.nil_append])
      have HEQ := HE.out
      subst HEQ
      have hsz := HB.out.size
      go_wp2_with (at_builtin; refine app_bytes rfl _ _ rfl w.heap.size _ 1 [45] rfl (owns_base (ownsB_lit wr [45] 1 _ _ rfl rfl (by omega) rfl) hsz) _ (digI n) rfl (slc_of_owns (owns_below HO.out ((Below.refl _ _).alloc (Nat.le_refl _) _) (Nat.le_refl _))) (k + 1) ([45] ++ digI n) (by have := HK.out; omega) rfl (by omega) (by simp; omega) ?_; intro a' cap' w' r1 r2 _; have hcv := conv_bytes r1 (by omega); rw [HS.out] at hcv)
      go_ret
      exact ⟨rfl, (HB.out.alloc hsz _).trans r2⟩

theorem l01DecZ_any (n : Int) (h0 : -1000000000000000 ≤ n) (h1 : n ≤ 1000000000000000) (w : World) :
    Calls Tryd.prog 58 #[.int .i64 n] w fun e w' => e = .returned (.string (itoaB n)) ∧ Below w.heap.size w w' := by
  by_cases h : n < 0
  · obtain ⟨m, rfl⟩ : ∃ m : Nat, n = -(m : Int) := ⟨n.natAbs, by omega⟩
    exact l01DecNeg_any m (by omega) (by omega) w
  · obtain ⟨m, rfl⟩ : ∃ m : Nat, n = (m : Int) := ⟨n.toNat, by omega⟩
    rw [itoaB_nat]
    exact l01Dec_any m (by omega) w
theorem inZ_any (z : Int) (q : Bool) (h : inB (-1000000000000000) 1000000000000000 z = q) (w : World) :
    Calls Tryd.prog 55 #[.int .i64 z, .int .i64 (-1000000000000000), .int .i64 1000000000000000] w fun e w' => e = .returned (.bool q) ∧ w = w' := by
  subst h
  exact in_any z (-1000000000000000) 1000000000000000 w

set_option maxHeartbeats 2000000 in
set_option maxRecDepth 4000 in
theorem l01Value_any (s : ByteArray) (w : World) (hs : s.size ≤ 1048576) :
    Calls Tryd.prog 72 #[.string s] w fun e w' => e = .returned (.tuple #[.int .i64 (valN s), .bool (valOk s)]) ∧ Below w.heap.size w w' := by
  by_cases hlen : s.size < 1 ∨ 17 < s.size
  · have HV := Lib.hid (valN_none (valB_long hlen))
    rcases hlen with h | h
    · have d1 : decide ((s.size : Int) < 1) = true := decide_eq_true (by omega)
      clear h
      go_enter Tryd.func72, Tryd.ntmps72
      go_wp2_with fail
      go_ret2
      exact ⟨by rw [HV.out.1, HV.out.2]; rfl, Below.refl _ _⟩
    · have d1 : decide ((s.size : Int) < 1) = false := decide_eq_false (by omega)
      have d2 : decide ((17 : Int) < (s.size : Int)) = true := decide_eq_true (by omega)
      clear h
      go_enter Tryd.func72, Tryd.ntmps72
      go_wp2_with fail
      go_ret2
      exact ⟨by rw [HV.out.1, HV.out.2]; rfl, Below.refl _ _⟩
  have hs1 : 1 ≤ s.size := by omega
  have hs17 : s.size ≤ 17 := by omega
  have d1 : decide ((s.size : Int) < 1) = false := decide_eq_false (by omega)
  have d2 : decide ((17 : Int) < (s.size : Int)) = false := decide_eq_false (by omega)
  clear hlen hs
  go_enter Tryd.func72, Tryd.ntmps72
  go_wp2_with fail
  go_loop [4, 5] (fun nv iv => ∃ k : Nat, iv = .int .i64 k ∧ k ≤ s.size ∧ nv = .int .i64 (accK s k)) (fun _ iv => s.size - (intOf iv).toNat)
  case atStart => exact ⟨0, rfl, Nat.zero_le _, rfl⟩
  case round =>
    obtain ⟨k, rfl, hk, rfl⟩ := hrel
    by_cases hlt : k < s.size
    · have hltI : (k : Int) < (s.size : Int) := by omega
      have HA := Lib.hid (accK_succ s k hlt)
      have hb0 := accK_lt s k hk
      have hp := Nat.pow_le_pow_right (n := 10) (by omega) (show k ≤ 16 by omega)
      have hacc : accK s k < 10000000000000000 := Nat.lt_of_lt_of_le hb0 hp
      obtain ⟨a, ha⟩ : ∃ a, a = accK s k := ⟨_, rfl⟩
      rw [← ha] at HA hacc ⊢
      have hc := s[k].toNat_lt
      obtain ⟨c, hcc⟩ : ∃ c, c = s[k].toNat := ⟨_, rfl⟩
      rw [← hcc] at hc HA
      have hcv : ∀ h : k < s.size, (s[k]'h).toNat = c := fun _ => hcc.symm
      clear hb0 hp ha hcc
      by_cases h48 : 48 ≤ c
      · have e1 : decide ((48 : Int) ≤ (c : Int)) = true := decide_eq_true (by omega)
        by_cases h57 : c ≤ 57
        · have e2 : decide ((c : Int) ≤ 57) = true := decide_eq_true (by omega)
          have HA2 := Lib.hid (show accK s (k + 1) = 10 * a + (c - 48) by rw [HA.out, if_pos ⟨h48, h57⟩])
          have hwu : IntKind.u8.wrap ((c : Int) - 48) = ((c - 48 : Nat) : Int) := by simp [IntKind.wrap, IntKind.bits, IntKind.signed]; omega
          obtain ⟨d, hd⟩ : ∃ d, d = c - 48 := ⟨_, rfl⟩
          rw [← hd] at hwu HA2
          have hd9 : d ≤ 9 := by omega
          clear hd h48 h57 hc
          go_wp2_with fail
          go_round
          case rel => exact ⟨k + 1, by go_num, by omega, by rw [HA2.out]; go_num⟩
          case measure => simp [intOf]; omega
        · have e2 : decide ((c : Int) ≤ 57) = false := decide_eq_false (by omega)
          have HA2 := Lib.hid (show accK s (k + 1) = a by rw [HA.out, if_neg (fun h => h57 h.2)])
          clear h48 h57 hc
          go_wp2_with fail
          go_round
          case rel => exact ⟨k + 1, by go_num, by omega, by rw [HA2.out]⟩
          case measure => simp [intOf]; omega
      · have e1 : decide ((48 : Int) ≤ (c : Int)) = false := decide_eq_false (by omega)
        have HA2 := Lib.hid (show accK s (k + 1) = a by rw [HA.out, if_neg (fun h => h48 h.1)])
        clear h48 hc
        go_wp2_with fail
        go_round
        case rel => exact ⟨k + 1, by go_num, by omega, by rw [HA2.out]⟩
        case measure => simp [intOf]; omega
    · obtain rfl : k = s.size := by omega
      have hb0 := accK_lt s s.size hk
      have hp := Nat.pow_le_pow_right (n := 10) (by omega) hs17
      have hacc : accK s s.size < 100000000000000000 := Nat.lt_of_lt_of_le hb0 hp
      have HSV0 := Lib.hid (show sval s = if s.data[0]! = 45 then -(accK s s.size : Int) else accK s s.size from rfl)
      obtain ⟨a, ha⟩ : ∃ a, a = accK s s.size := ⟨_, rfl⟩
      rw [← ha] at HSV0 hacc ⊢
      have hget : s.data[0]! = s[0] := getElem!_pos s.data 0 hs1
      rw [hget] at HSV0
      clear hb0 hp ha hget
      by_cases h45 : s[0] = 45
      · have h45b : ∀ h : 0 < s.size, ((((s[0]'h).toNat : Nat) : Int) == 45) = true := by intro h; rw [h45]; rfl
        have HSV1 := Lib.hid (show sval s = -(a : Int) by rw [HSV0.out, if_pos h45])
        go_upto_region 11 with fail
        obtain ⟨z, hz⟩ : ∃ z, z = -(a : Int) := ⟨_, rfl⟩
        have hzb : -100000000000000000 < z ∧ z < 100000000000000000 := by omega
        have HSV := Lib.hid (show sval s = z by rw [HSV1.out, hz])
        rw [← hz]
        clear h45 h45b hz HSV1 HSV0 hacc
        by_cases h0 : -1000000000000000 ≤ z ∧ z ≤ 1000000000000000
        · have HIN := Lib.hid (fun W => inZ_any z true (by rw [inB_iff]; exact h0) W)
          have hd := fun W => l01DecZ_any z h0.1 h0.2 W
          by_cases he : itoaB z = s
          · have HV := Lib.hid (valN_some (by have h := @valB_sval s; rw [HSV.out, if_pos ⟨h0, he⟩] at h; exact h))
            rw [he] at hd
            have HD := Lib.hid hd
            clear h0 he hd
            go_wp2_with (first
              | (go_at_call 55; refine (HIN.out _).mono ?_; rintro e w' ⟨rfl, rfl⟩)
              | (go_at_call 58; refine (HD.out _).mono ?_; rintro e w2 ⟨rfl, hb2⟩)
              | fail)
            go_ret2
            exact ⟨by rw [HV.out.1, HV.out.2]; rfl, hb2⟩
          · have HV := Lib.hid (valN_none (by have h := @valB_sval s; rw [HSV.out, if_neg (fun h => he h.2)] at h; exact h))
            have hne := str_ne he
            obtain ⟨D, hD⟩ : ∃ D, D = itoaB z := ⟨_, rfl⟩
            rw [← hD] at hd hne
            have HD := Lib.hid hd
            clear h0 he hd hD
            go_wp2_with (first
              | (go_at_call 55; refine (HIN.out _).mono ?_; rintro e w' ⟨rfl, rfl⟩)
              | (go_at_call 58; refine (HD.out _).mono ?_; rintro e w2 ⟨rfl, hb2⟩)
              | fail)
            go_ret2
            exact ⟨by rw [HV.out.1, HV.out.2]; rfl, hb2⟩
        · have HV := Lib.hid (valN_none (by have h := @valB_sval s; rw [HSV.out, if_neg (fun h => h0 h.1)] at h; exact h))
          have HIN := Lib.hid (fun W => inZ_any z false (by apply bool_false; rw [inB_iff]; exact h0) W)
          clear h0
          go_wp2_with (first
            | (go_at_call 55; refine (HIN.out _).mono ?_; rintro e w' ⟨rfl, rfl⟩)
            | fail)
          go_ret2
          exact ⟨by rw [HV.out.1, HV.out.2]; rfl, Below.refl _ _⟩
      · have h45b : ∀ h : 0 < s.size, ((((s[0]'h).toNat : Nat) : Int) == 45) = false := by
          intro h
          rw [beq_eq_false_iff_ne]
          intro e
          exact h45 (UInt8.toNat_inj.1 (show s[0].toNat = 45 by omega))
        have HSV1 := Lib.hid (show sval s = (a : Int) by rw [HSV0.out, if_neg h45])
        go_upto_region 11 with fail
        obtain ⟨z, hz⟩ : ∃ z, z = (a : Int) := ⟨_, rfl⟩
        have hzb : -100000000000000000 < z ∧ z < 100000000000000000 := by omega
        have HSV := Lib.hid (show sval s = z by rw [HSV1.out, hz])
        rw [← hz]
        clear h45 h45b hz HSV1 HSV0 hacc
        by_cases h0 : -1000000000000000 ≤ z ∧ z ≤ 1000000000000000
        · have HIN := Lib.hid (fun W => inZ_any z true (by rw [inB_iff]; exact h0) W)
          have hd := fun W => l01DecZ_any z h0.1 h0.2 W
          by_cases he : itoaB z = s
          · have HV := Lib.hid (valN_some (by have h := @valB_sval s; rw [HSV.out, if_pos ⟨h0, he⟩] at h; exact h))
            rw [he] at hd
            have HD := Lib.hid hd
            clear h0 he hd
            go_wp2_with (first
              | (go_at_call 55; refine (HIN.out _).mono ?_; rintro e w' ⟨rfl, rfl⟩)
              | (go_at_call 58; refine (HD.out _).mono ?_; rintro e w2 ⟨rfl, hb2⟩)
              | fail)
            go_ret2
            exact ⟨by rw [HV.out.1, HV.out.2]; rfl, hb2⟩
          · have HV := Lib.hid (valN_none (by have h := @valB_sval s; rw [HSV.out, if_neg (fun h => he h.2)] at h; exact h))
            have hne := str_ne he
            obtain ⟨D, hD⟩ : ∃ D, D = itoaB z := ⟨_, rfl⟩
            rw [← hD] at hd hne
            have HD := Lib.hid hd
            clear h0 he hd hD
            go_wp2_with (first
              | (go_at_call 55; refine (HIN.out _).mono ?_; rintro e w' ⟨rfl, rfl⟩)
              | (go_at_call 58; refine (HD.out _).mono ?_; rintro e w2 ⟨rfl, hb2⟩)
              | fail)
            go_ret2
            exact ⟨by rw [HV.out.1, HV.out.2]; rfl, hb2⟩
        · have HV := Lib.hid (valN_none (by have h := @valB_sval s; rw [HSV.out, if_neg (fun h => h0 h.1)] at h; exact h))
          have HIN := Lib.hid (fun W => inZ_any z false (by apply bool_false; rw [inB_iff]; exact h0) W)
          clear h0
          go_wp2_with (first
            | (go_at_call 55; refine (HIN.out _).mono ?_; rintro e w' ⟨rfl, rfl⟩)
            | fail)
          go_ret2
          exact ⟨by rw [HV.out.1, HV.out.2]; rfl, Below.refl _ _⟩

end Go.Proofs.YtggpbekclegfoaaDoor

namespace Go.Proofs.YtggpbekclegfoaaDoor
open Go.RowKit

theorem areItems_any (v : Value) (xs : List Int) (w : World) (h : RdI w v xs) :
    Calls Tryd.prog 53 #[v] w fun e w' => e = .returned (.bool (decide (xs.length ≤ 64) && allIn (-1000000000000000) 1000000000000000 xs)) ∧ w = w' := by
  obtain ⟨a, c, rfl⟩ := h.shape
  have hl := h.len
  simp only [maxLen] at hl
  have HW := Lib.hid (allWithin_any _ xs (-1000000000000000) 1000000000000000 w h)
  clear h
  go_enter Tryd.func53, Tryd.ntmps53
  by_cases h1 : xs.length ≤ 64
  · have d1 : decide ((xs.length : Int) ≤ 64) = true := decide_eq_true (by omega)
    have HE := Lib.hid (show decide (xs.length ≤ 64) = true from decide_eq_true h1)
    clear h1
    go_wp2_with (go_at_call 78; refine HW.out.mono ?_; rintro e w' ⟨rfl, rfl⟩)
    go_ret
    exact ⟨by rw [HE.out]; rfl, rfl⟩
  · have d1 : decide ((xs.length : Int) ≤ 64) = false := decide_eq_false (by omega)
    have HE := Lib.hid (show decide (xs.length ≤ 64) = false from decide_eq_false h1)
    clear h1
    go_wp2_with fail
    go_ret
    exact ⟨by rw [HE.out]; rfl, rfl⟩

/-- A list of few numbers, none of them below 0. -/
theorem listTextOk_any (v : Value) (xs : List Int) (w : World) (h : RdI w v xs) (hs : Small xs) (hl : xs.length ≤ 64) (hin : allIn (-1000000000000000) 1000000000000000 xs = true) (hp : HasPow w) :
    Calls Tryd.prog 29 #[v] w fun e w' => e = .returned (.tuple #[.string (listT xs), .bool true]) ∧ Below w.heap.size w w' := by
  have ha := areItems_any v xs w h
  rw [hin, show decide (xs.length ≤ 64) = true from decide_eq_true hl] at ha
  have HA := Lib.hid ha
  have HL := Lib.hid (listTextI_any v xs w h hs (by omega) hp)
  clear ha h hs hin hp
  go_enter Tryd.func29, Tryd.ntmps29
  go_wp2_with (first
    | (go_at_call 53; refine HA.out.mono ?_; rintro e w' ⟨rfl, rfl⟩)
    | (go_at_call 54; refine HL.out.mono ?_; rintro e w1 ⟨rfl, hb⟩))
  go_ret2
  exact ⟨rfl, hb⟩

theorem nums_in {js : List JobD} (h : areJobsB js = true) : allIn (-1000000000000000) 1000000000000000 (numsK js js.length) = true := by
  refine allIn_true fun i hi => ?_
  have := nums_small h ((numsK js js.length).getD i 0) (by rw [List.getD_eq_getElem?_getD, List.getElem?_eq_getElem hi]; exact List.getElem_mem _)
  rw [inB_iff]; omega

set_option maxHeartbeats 1000000 in
set_option maxRecDepth 4000 in
theorem jobsTextI_any (v : Value) (js : List JobD) (w : World) (h : RdJ w v js) (hp : HasPow w) :
    Calls Tryd.prog 10 #[v] w fun e w' => e = .returned (.tuple #[.string (jobT js), .bool (areJobsB js)]) ∧ Below w.heap.size w w' := by
  have HA := Lib.hid (AreJobs_any v js w h)
  obtain ⟨q, hq⟩ : ∃ q, areJobsB js = q := ⟨_, rfl⟩
  rw [hq] at HA ⊢
  have HQ := Lib.hid hq
  have HPW := Lib.hid hp
  clear hq hp
  obtain ⟨a, c, rfl⟩ := h.shape
  have HR := Lib.hid h
  clear h
  go_enter Tryd.func10, Tryd.ntmps10
  cases q
  · go_wp2_with (go_at_call 28; refine HA.out.mono ?_; rintro e w0 ⟨rfl, hb⟩)
    go_ret2
    exact ⟨by rw [show jobT js = E0 by unfold jobT; rw [HQ.out]; rfl]; rfl, hb⟩
  have hn : js.length ≤ 12 := by
    have hj := HQ.out
    unfold areJobsB at hj
    rw [Bool.and_eq_true, inB_iff] at hj
    omega
  go_upto_region 3 with (go_at_call 28; refine HA.out.mono ?_; rintro e w0 ⟨rfl, hb⟩)
  have HB0 := Lib.hid hb
  clear hb HA
  go_wp2_with fail
  go_loopw [4, 12] (fun ov iv wr => ∃ (k m : Nat) (b : Option Addr) (cc : Nat), iv = .int .i64 k ∧ k ≤ js.length ∧ Hid (m = 4 * k) ∧ ov = .slice b m cc ∧ Hid (wr.ownsRow w.heap.size 2 1 (.slice b m cc) m ((numsK js k).map I64)) ∧ Hid (Below w.heap.size w wr)) (fun _ iv _ => js.length + 1 - (intOf iv).toNat)
  case atStart => exact ⟨0, 0, none, 0, rfl, Nat.zero_le _, Lib.hid rfl, rfl, Lib.hid (World.ownsRow_nil _ _ _ _), HB0⟩
  case round =>
    obtain ⟨k, m, b, cc, rfl, hk, HM, rfl, HO, HB⟩ := hrel
    obtain ⟨wo, rfl⟩ : ∃ wo, wo = wr := ⟨wr, rfl⟩
    have hsz := HB.out.size
    by_cases hlt : k < js.length
    · have hlt' : (k : Int) < js.length := by omega
      obtain ⟨jb, jo, rfl, hjb, d0, d1, d2, d3⟩ := (HR.out.up HB.out (Nat.le_refl _)).at hlt
      have HE := Lib.hid (numsK_succ js k hlt)
      obtain ⟨j, hje⟩ : ∃ j, j = js.getD k J0 := ⟨_, rfl⟩
      rw [← hje] at d0 d1 d2 d3 HE
      have HE2 := Lib.hid (show numsK js (k + 1) = numsK js k ++ [j.long, j.due, j.weight, j.ready] from HE.out)
      have hm4 : m + 4 ≤ 1000 := by have := HM.out; omega
      clear hje HE
      have hal : Below w.heap.size wo ((wo.alloc (.cells #[.int .i64 j.long, .int .i64 j.due, .int .i64 j.weight, .int .i64 j.ready] 49)).alloc (.cells #[.int .i64 j.long, .int .i64 j.due, .int .i64 j.weight, .int .i64 j.ready] 2)) := ((Below.refl _ _).alloc hsz _).alloc (by simp; omega) _
      have HAL := Lib.hid hal
      clear hal
      go_wp2_with (go_loud (at_builtin; refine app_ints rfl _ _ rfl w.heap.size (.slice b m cc) m (numsK js k) rfl ((HO.out.alloc _).alloc _) _ [j.long, j.due, j.weight, j.ready] rfl (slcI_four _ _ _ _ _ _ (by simp)) (m + 4) (numsK js (k + 1)) (by simp) HE2.out (by omega) (Nat.le_trans hsz HAL.out.size) ?_; intro b3 c3 w3 hown3 hbl3 _ _))
      go_roundw
      case rel => exact ⟨k + 1, m + 4, b3, c3, by go_num, by omega, Lib.hid (by have := HM.out; omega), rfl, Lib.hid hown3, Lib.hid (HB.out.trans (HAL.out.trans hbl3))⟩
      case measure => simp [intOf]; omega
    · obtain rfl : k = js.length := by omega
      have hrd : RdI wo (.slice b m cc) (numsK js js.length) := slc_of_owns HO.out
      have hnl := numsK_len js js.length (Nat.le_refl _)
      have HT := Lib.hid (listTextOk_any _ (numsK js js.length) wo hrd (nums_sm HQ.out) (by omega) (nums_in HQ.out) (HPW.out.up HB.out (Nat.le_refl _)))
      clear hrd hnl
      go_wp2_with (go_at_call 29; refine HT.out.mono ?_; rintro e w1 ⟨rfl, hb1⟩)
      go_ret2
      exact ⟨by rw [show jobT js = listT (numsK js js.length) by unfold jobT; rw [HQ.out]; rfl]; rfl, HB.out.trans (hb1.mono hsz)⟩

end Go.Proofs.YtggpbekclegfoaaDoor
