/-
  FnDesk: texts joined: AddRow, ScaleM, Has, Str, Reg, Tab, TabM.
-/
import Derived.Maps.AppendAt
import Derived.Deep.RegionHeld3
import Derived.Deep.Cut
import Derived.Test.YtgkbbpajkbkgnaaGreatDoorMFnDeskAA
import Derived.Test.YtgkbbpajkbkgnaaGreatDoorMFnDeskAB
import Derived.Test.YtgkbbpajkbkgnaaGreatDoorMFnDeskAC
set_option linter.unusedVariables false
set_option linter.unusedSimpArgs false
namespace Go.Proofs.YtgkbbpajkbkgnaaGreatDoor
open Go.RowKit
theorem app_fltsL {w : World} {ops : Array Oper} {rest : List Oper} {o : Oper} {a : Act} {Q : Exit → Act → World → Prop} (hgd : o.guard = none) (s x : Operand)
    (ho : o.op = .call { callee := .builtin .append, args := #[s, x], argTypes := #[24, 24] })
    (base : Nat) (v : Value) (n : Nat) (xs : List Nat) (hs : a.eval s = v) (hown : w.ownsRow base 100 1 v n (xs.map F32))
    (sv : Value) (news : List Nat) (hx : a.eval x = sv) (hsv : Slc w sv (news.map F32)) (m : Nat) (ys : List Nat) (hm : m = n + news.length) (hys : ys = xs ++ news) (hlen : m ≤ 17592186044416) (hbase : base ≤ w.heap.size)
    (h : ∀ a' cap' w', w'.ownsRow base 100 1 (.slice a' m cap') m (ys.map F32) → Below base w w' → w.grownBy w' v.ownBlock → ((Value.slice a' m cap').ownBlock = v.ownBlock ∨ (Value.slice a' m cap').ownBlock = some w.heap.size) → wpList Tryz.prog ops Q rest (a.put o.dst (.slice a' m cap')) w') :
    wpList Tryz.prog ops Q (o :: rest) a w := by
  obtain ⟨i0, hi, hz0, hz1, hz2⟩ := info_parts Tryz.infoF32
  subst hm hys
  have hk : ∀ v' w', w'.ownsRow base 100 1 v' (n + news.length) (xs.map F32 ++ news.map F32) → w.grownBy w' v.ownBlock → (v'.ownBlock = v.ownBlock ∨ v'.ownBlock = some w.heap.size) → wpList Tryz.prog ops Q rest (a.put o.dst v') w' := by
    intro v' w' h1 h2 h3
    have h1' : w'.ownsRow base 100 1 v' (n + news.length) ((xs ++ news).map F32) := by simpa using h1
    obtain ⟨a', cap', rfl⟩ := owns_shape h1'
    exact h a' cap' w' h1' (below_grown hown hbase h2) h2 h3
  rcases hsv with ⟨rfl, hnil⟩ | ⟨ad, cap, rfl, hcl, hcm, hc⟩
  · have hn : news = [] := by simpa using hnil
    subst hn
    refine wpList_append_own_none hgd s x 24 ho base 100 i0 1 Tryz.underlying24 hi v n (xs.map F32) hs hown hx ?_
    exact hk v w (by simpa using hown) (World.grownBy.refl _ _) (.inl rfl)
  · refine wpList_append_own_at w hgd s x 24 ho base 100 i0 (.float .f32 0) 1 4 Tryz.underlying24 hi hz0 hz1 hz2 rfl (by decide) v n (xs.map F32) hs hown ad (news.map F32).length cap (news.map F32) hx (by simp) hc (f32_one news) (by simp [maxLen]; omega) (by simp; omega) hbase ?_
    intro v' w' h2 h3 _ h5
    exact hk v' w' (by simpa using h2) h3 h5
theorem ownF_grown {lo hi : Nat} {w w' : World} {v u : Value} {xs : List Nat} (h : OwnF lo hi w v xs) (hg : w.grownBy w' u.ownBlock) (hn : ∀ g, v.ownBlock = some g → u.ownBlock ≠ some g) : OwnF lo hi w' v xs := by
  refine ⟨owns_kept (S := fun k => u.ownBlock = some k) h.1 ⟨hg.os, hg.tape, hg.output, hg.size, fun k hk hs => hg.block k hk fun e => hs e.symm⟩ hn, h.2⟩
theorem ownR_app1 {lo hi : Nat} {w w' : World} {n0 : Int} {x1 x2 x3 xs : List Nat} {y1 y2 y3 y : Value} {m : Nat} (h : OwnR lo hi w (.agg #[.int .i64 n0, y1, y2, y3]) ⟨n0, x1, x2, x3⟩) (hh : hi ≤ w.heap.size) (hg : w.grownBy w' y1.ownBlock)
    (ho : w'.ownsRow lo 100 1 y m (xs.map F32)) (hl : y.ownBlock = y1.ownBlock ∨ y.ownBlock = some w.heap.size) : OwnR lo w'.heap.size w' (.agg #[.int .i64 n0, y, y2, y3]) ⟨n0, xs, x2, x3⟩ := by
  obtain ⟨va, vb, vc, e, o1, o2, o3, d1, d2, d3⟩ := h
  simp only [Value.agg.injEq, Array.mk.injEq, List.cons.injEq, and_true, true_and] at e
  obtain ⟨rfl, rfl, rfl⟩ := e
  have hz := hg.size
  have p2 : OwnF lo hi w' y2 x2 := ownF_grown o2 hg (fun g hg h2 => d1 g h2 hg)
  have p3 : OwnF lo hi w' y3 x3 := ownF_grown o3 hg (fun g hg h2 => d2 g h2 hg)
  refine ⟨_, _, _, rfl, OwnF.mk ho, p2.wide (Nat.le_refl _) (by omega), p3.wide (Nat.le_refl _) (by omega), ?_, ?_, d3⟩
  · intro g h1 h2
    rcases hl with hl | hl
    · exact d1 g (hl ▸ h1) h2
    · rw [hl] at h1; simp only [Option.some.injEq] at h1; have := (p2.blk h2).2; omega
  · intro g h1 h2
    rcases hl with hl | hl
    · exact d2 g (hl ▸ h1) h2
    · rw [hl] at h1; simp only [Option.some.injEq] at h1; have := (p3.blk h2).2; omega
theorem ownR_app2 {lo hi : Nat} {w w' : World} {n0 : Int} {x1 x2 x3 xs : List Nat} {y1 y2 y3 y : Value} {m : Nat} (h : OwnR lo hi w (.agg #[.int .i64 n0, y1, y2, y3]) ⟨n0, x1, x2, x3⟩) (hh : hi ≤ w.heap.size) (hg : w.grownBy w' y2.ownBlock)
    (ho : w'.ownsRow lo 100 1 y m (xs.map F32)) (hl : y.ownBlock = y2.ownBlock ∨ y.ownBlock = some w.heap.size) : OwnR lo w'.heap.size w' (.agg #[.int .i64 n0, y1, y, y3]) ⟨n0, x1, xs, x3⟩ := by
  obtain ⟨va, vb, vc, e, o1, o2, o3, d1, d2, d3⟩ := h
  simp only [Value.agg.injEq, Array.mk.injEq, List.cons.injEq, and_true, true_and] at e
  obtain ⟨rfl, rfl, rfl⟩ := e
  have hz := hg.size
  have p1 : OwnF lo hi w' y1 x1 := ownF_grown o1 hg d1
  have p3 : OwnF lo hi w' y3 x3 := ownF_grown o3 hg (fun g hg h2 => d3 g h2 hg)
  refine ⟨_, _, _, rfl, p1.wide (Nat.le_refl _) (by omega), OwnF.mk ho, p3.wide (Nat.le_refl _) (by omega), ?_, d2, ?_⟩
  · intro g h1 h2
    rcases hl with hl | hl
    · exact d1 g h1 (hl ▸ h2)
    · rw [hl] at h2; simp only [Option.some.injEq] at h2; have := (p1.blk h1).2; omega
  · intro g h1 h2
    rcases hl with hl | hl
    · exact d3 g (hl ▸ h1) h2
    · rw [hl] at h1; simp only [Option.some.injEq] at h1; have := (p3.blk h2).2; omega
theorem ownR_set {lo hi : Nat} {w : World} {v : Value} {r : RowsD} {g : Nat} {cs : Array Value} (h : OwnR lo hi w v r) (hb : Blk w g 26 cs) (j : Nat) (u : Value) : OwnR lo hi (w.setCell ⟨g, j, none⟩ u) v r := by
  obtain ⟨va, vb, vc, e, o1, o2, o3, d⟩ := h
  have f : ∀ {y : Value} {xs : List Nat}, OwnF lo hi w y xs → OwnF lo hi (w.setCell ⟨g, j, none⟩ u) y xs := fun o => ⟨ownsRow_setCell_other o.1 (hb.not_owned o.1 (by decide)) _, o.2⟩
  exact ⟨va, vb, vc, e, f o1, f o2, f o3, d⟩
theorem OwnR.parts {lo hi : Nat} {w : World} {x0 x y z : Value} {r : RowsD} (h : OwnR lo hi w (.agg #[x0, x, y, z]) r) : OwnF lo hi w x r.nums ∧ OwnF lo hi w y r.bnds ∧ OwnF lo hi w z r.gains := by
  obtain ⟨va, vb, vc, e, h1, h2, h3, _⟩ := h
  simp only [Value.agg.injEq, Array.mk.injEq, List.cons.injEq, and_true] at e
  obtain ⟨_, rfl, rfl, rfl⟩ := e
  exact ⟨h1, h2, h3⟩
theorem ownR_zero (lo hi : Nat) (w : World) : OwnR lo hi w (.agg #[.int .i64 0, .slice none 0 0, .slice none 0 0, .slice none 0 0]) zeroR := by
  have o : OwnF lo hi w (.slice none 0 0) [] := ⟨World.ownsRow_nil _ _ _ _, by intro g hg; cases hg⟩
  exact ⟨_, _, _, rfl, o, o, o, (by intro g hg; cases hg), (by intro g hg; cases hg), (by intro g hg; cases hg)⟩
end Go.Proofs.YtgkbbpajkbkgnaaGreatDoor

namespace Go.Proofs.YtgkbbpajkbkgnaaGreatDoor
open Go.RowKit
def mxF (most a : Nat) : Nat := if gtF a most = true then a else most
def mostK (xs : List Nat) : Nat → Nat
  | 0 => 0
  | k + 1 => mxF (mostK xs k) (abs32 (xs.getD k 0))
theorem abs_lt (x : Nat) : abs32 x < 2147483648 := by unfold abs32; omega
theorem pos_neg {x : Nat} (h : x < 2147483648) (hf : fin32 x = true) : (FloatKind.f32.decode x).neg = false := by
  show (Ieee.single.read x).neg = false
  obtain ⟨s, m, e, h0, h1, _⟩ := read32_parts hf
  rw [h0]
  show s = false
  rw [h1, show x / 2147483648 % 2 = 0 by omega]
  rfl
theorem mxF_fin {m a : Nat} (hm : fin32 m = true) (ha : fin32 a = true) : fin32 (mxF m a) = true := by unfold mxF; split <;> assumption
theorem mxF_lt {m a : Nat} (hm : m < 2147483648) (ha : a < 2147483648) : mxF m a < 2147483648 := by unfold mxF; split <;> assumption
theorem mostK_ok {xs : List Nat} (h : allFin xs = true) : ∀ k, k ≤ xs.length → fin32 (mostK xs k) = true ∧ mostK xs k < 2147483648
  | 0, _ => ⟨fin0, by simp [mostK]⟩
  | k + 1, hk => by
    obtain ⟨h1, h2⟩ := mostK_ok h k (by omega)
    exact ⟨mxF_fin h1 (abs_fin (allFin_get h (by omega))), mxF_lt h2 (abs_lt _)⟩
set_option maxHeartbeats 2000000 in
theorem row_at (V i n c b off : Nat) (v2 v3 : Value) (w : World) (hv1 : 1 ≤ V) (hv8 : V ≤ 8) (hi8 : i < 8) (hmm : i * V + V ≤ n) (hx64 : n ≤ 64) (hc1a : n ≤ c) (hc1b : c ≤ maxLen) :
    Calls Tryz.prog 75 #[.agg #[.int .i64 V, .slice (some ⟨b, off, none⟩) n c, v2, v3], .int .i64 i] w fun e w' => e = .returned (.slice (some ⟨b, off + i * V, none⟩) V (c - i * V)) ∧ Below w.heap.size w w' := by
  obtain ⟨m, hm⟩ : ∃ m, m = i * V := ⟨_, rfl⟩
  have e1 : (i : Int) * (V : Int) = (m : Int) := by rw [hm]; push_cast; rfl
  have e2 : ((i : Int) + 1) * (V : Int) = (m : Int) + (V : Int) := by rw [Int.add_mul, e1, Int.one_mul]
  rw [← hm] at hmm ⊢
  unfold maxLen at hc1b
  clear hm
  go_enter Tryz.func75, Tryz.ntmps75
  go_wp2_with fail
  go_ret
  refine ⟨?_, by (repeat' first | exact Below.refl _ _ | assumption | refine Below.alloc ?_ ?_ _ | refine Below.setCell ?_ ?_ _ | refine Below.drew ?_ | (simp; done) | (simp; omega))⟩
  simp
  done
def mostR (r : RowsD) (i : Nat) : Nat := mostK (rowO r i) r.gains.length
def posR (r : RowsD) (i : Nat) : Bool := gtF (mostR r i) 0
def scN (r : RowsD) (j : Nat) : Nat := if posR r (j / r.gains.length) = true then divV (r.nums.getD j 0) (mostR r (j / r.gains.length)) else r.nums.getD j 0
def stN (r : RowsD) (n : Nat) : List Nat := (List.range r.nums.length).map fun j => if j < n then scN r j else r.nums.getD j 0
def scB (r : RowsD) (i : Nat) : Nat := if posR r i = true then divV (r.bnds.getD i 0) (mostR r i) else r.bnds.getD i 0
def stB (r : RowsD) (n : Nat) : List Nat := (List.range r.bnds.length).map fun i => if i < n then scB r i else r.bnds.getD i 0
def scR (r : RowsD) : RowsD := ⟨r.vars, stN r r.nums.length, stB r r.bnds.length, r.gains⟩
noncomputable def scaleOk (r : RowsD) : Bool := validR r && validR (scR r)
noncomputable def scaleV (r : RowsD) : RowsD := if scaleOk r = true then scR r else zeroR
theorem stN_len (r : RowsD) (n : Nat) : (stN r n).length = r.nums.length := by simp [stN]
theorem stB_len (r : RowsD) (n : Nat) : (stB r n).length = r.bnds.length := by simp [stB]
theorem map_getD (xs : List Nat) : (List.range xs.length).map (fun j => xs.getD j 0) = xs := by
  refine List.ext_getElem (by simp) fun i h1 h2 => ?_
  simp [h2]
theorem stN_zero (r : RowsD) : stN r 0 = r.nums := by
  unfold stN
  simp only [Nat.not_lt_zero, if_false]
  exact map_getD _
theorem stB_zero (r : RowsD) : stB r 0 = r.bnds := by
  unfold stB
  simp only [Nat.not_lt_zero, if_false]
  exact map_getD _
theorem step_set {n j : Nat} (f g : Nat → Nat) (h : j < n) : ((List.range n).map fun i => if i < j then f i else g i).set j (f j) = (List.range n).map fun i => if i < j + 1 then f i else g i := by
  refine List.ext_getElem (by simp) fun i h1 h2 => ?_
  rw [List.getElem_set]
  simp only [List.getElem_map, List.getElem_range]
  by_cases e : j = i
  · subst e; simp
  · rw [if_neg e]
    by_cases q : i < j
    · rw [if_pos q, if_pos (by omega)]
    · rw [if_neg q, if_neg (by omega)]
theorem stN_set (r : RowsD) {j : Nat} (h : j < r.nums.length) : (stN r j).set j (scN r j) = stN r (j + 1) := step_set _ _ h
theorem stB_set (r : RowsD) {j : Nat} (h : j < r.bnds.length) : (stB r j).set j (scB r j) = stB r (j + 1) := step_set _ _ h
theorem stN_at (r : RowsD) {j n : Nat} (h : j < r.nums.length) (hn : n ≤ j) : (stN r n).getD j 0 = r.nums.getD j 0 := by
  unfold stN
  simp [h, show ¬ j < n by omega]
theorem stB_at (r : RowsD) {j n : Nat} (h : j < r.bnds.length) (hn : n ≤ j) : (stB r n).getD j 0 = r.bnds.getD j 0 := by
  unfold stB
  simp [h, show ¬ j < n by omega]
theorem div_row {V i k : Nat} (hk : k < V) : (i * V + k) / V = i := by
  rw [Nat.mul_comm, Nat.mul_add_div (by omega), Nat.div_eq_of_lt hk, Nat.add_zero]
theorem stN_skip {r : RowsD} {i : Nat} (h : posR r i = false) : stN r ((i + 1) * r.gains.length) = stN r (i * r.gains.length) := by
  unfold stN
  refine List.map_congr_left fun j _ => ?_
  by_cases h1 : j < i * r.gains.length
  · rw [if_pos h1, if_pos (by rw [Nat.succ_mul]; omega)]
  · rw [if_neg h1]
    by_cases h2 : j < (i + 1) * r.gains.length
    · rw [if_pos h2]
      have : j / r.gains.length = i := by
        rw [Nat.succ_mul] at h2
        obtain ⟨k, rfl⟩ : ∃ k, j = i * r.gains.length + k := ⟨j - i * r.gains.length, by omega⟩
        exact div_row (by omega)
      unfold scN
      rw [this, h]
      rfl
    · rw [if_neg h2]
theorem scN_pos {r : RowsD} {i k : Nat} (h : posR r i = true) (hk : k < r.gains.length) : scN r (i * r.gains.length + k) = divV (r.nums.getD (i * r.gains.length + k) 0) (mostR r i) := by
  unfold scN
  rw [div_row hk, h]
  rfl
theorem scB_pos {r : RowsD} {i : Nat} (h : posR r i = true) : scB r i = divV (r.bnds.getD i 0) (mostR r i) := by unfold scB; rw [h]; rfl
theorem stB_skip {r : RowsD} {i : Nat} (h : posR r i = false) : stB r (i + 1) = stB r i := by
  unfold stB
  refine List.map_congr_left fun j _ => ?_
  by_cases h1 : j < i
  · rw [if_pos h1, if_pos (by omega)]
  · rw [if_neg h1]
    by_cases h2 : j < i + 1
    · obtain rfl : j = i := by omega
      rw [if_pos h2]; unfold scB; rw [h]; rfl
    · rw [if_neg h2]
theorem rowO_at {r : RowsD} {i k : Nat} (hk : k < r.gains.length) : (rowO r i).getD k 0 = r.nums.getD (i * r.gains.length + k) 0 := by
  unfold rowO
  rw [List.getD_eq_getElem?_getD, List.getElem?_take_of_lt hk, List.getElem?_drop, List.getD_eq_getElem?_getD]
end Go.Proofs.YtgkbbpajkbkgnaaGreatDoor

namespace Go.Proofs.YtgkbbpajkbkgnaaGreatDoor
open Go.RowKit
def hasB (l : List Int) (x : Int) : Bool := l.contains x
theorem hasB_yes {l : List Int} {x : Int} {j : Nat} (hj : j < l.length) (h : l.getD j 0 = x) : hasB l x = true := by
  unfold hasB; rw [List.contains_iff_mem]
  have : l.getD j 0 = l[j] := by simp [hj]
  rw [this] at h; rw [← h]; exact List.getElem_mem hj
theorem hasB_no {l : List Int} {x : Int} (h : ∀ j, j < l.length → l.getD j 0 ≠ x) : hasB l x = false := by
  unfold hasB; rw [Bool.eq_false_iff]; intro hc
  rw [List.contains_iff_mem] at hc
  obtain ⟨j, hj, e⟩ := List.getElem_of_mem hc
  exact h j hj (by simp [hj, e])
set_option maxHeartbeats 400000 in
theorem has_any (v : Value) (l : List Int) (x : Int) (w : World) (h : RdI w v l) :
    Calls Tryz.prog 129 #[v, .int .i64 x] w fun e w' => e = .returned (.bool (hasB l x)) ∧ w = w' := by
  obtain ⟨a, c, rfl⟩ := h.shape
  have hl := h.len
  unfold maxLen at hl
  have HS := Lib.hid h
  clear h
  go_enter Tryz.func129, Tryz.ntmps129
  go_wp2_with fail
  go_loop [9] (fun i => ∃ k : Nat, i = .int .i64 k ∧ k ≤ l.length ∧ Hid (∀ j, j < k → l.getD j 0 ≠ x)) (fun i => l.length - (intOf i).toNat)
  case atStart => exact ⟨0, rfl, Nat.zero_le _, fun j hj => by omega⟩
  case round =>
    obtain ⟨k, rfl, hk, hno⟩ := hrel
    by_cases hlt : k < l.length
    · obtain ⟨b, off, rfl, _, hc⟩ := HS.out.at hlt
      obtain ⟨y, hy⟩ : ∃ y, y = l.getD k 0 := ⟨_, rfl⟩
      rw [← hy] at hc
      by_cases he : y = x
      · have he' : (y == x) = true := by simp [he]
        have HY := Lib.hid (show hasB l x = true from hasB_yes hlt (hy.symm.trans he))
        clear he hy
        go_wp2_with fail
        go_ret
        exact ⟨by rw [HY.out]; rfl, rfl⟩
      · have he' : (y == x) = false := by simp [he]
        have HE := Lib.hid (show l.getD k 0 ≠ x by rw [← hy]; exact he)
        clear he hy
        go_wp2_with fail
        go_round
        case rel => exact ⟨k + 1, by go_num, by omega, fun j hj => by
          rcases Nat.lt_succ_iff_lt_or_eq.1 hj with h | rfl
          · exact hno.out j h
          · exact HE.out⟩
        case measure => simp [intOf]; omega
    · obtain rfl : k = l.length := by omega
      go_wp2_with fail
      go_ret
      exact ⟨by rw [hasB_no hno.out]; rfl, rfl⟩
end Go.Proofs.YtgkbbpajkbkgnaaGreatDoor

namespace Go.Proofs.YtgkbbpajkbkgnaaGreatDoor
open Go.RowKit
theorem str_ext {s t : ByteArray} (h : s.toList = t.toList) : s = t := by
  rw [ByteArray.toList_eq, ByteArray.toList_eq] at h
  exact ByteArray.ext (Array.ext' h)
theorem str_ne {s t : ByteArray} (h : s ≠ t) : (s.toList == t.toList) = false := by
  cases hb : s.toList == t.toList
  · rfl
  · exact absurd (str_ext (eq_of_beq hb)) h
@[go_sem] theorem binOp_string_neq_true (t : TypeId) (a b : ByteArray) (h : (a.toList == b.toList) = false) : binOp .neq t (.string a) (.string b) = pure (.bool true) := by
  rw [binOp_string_neq, h]; rfl
@[go_sem] theorem binOp_string_neq_same (t : TypeId) (a : ByteArray) : binOp .neq t (.string a) (.string a) = pure (.bool false) := by
  rw [binOp_string_neq]; simp
@[go_sem] theorem binOp_string_eql_false (t : TypeId) (a b : ByteArray) (h : (a.toList == b.toList) = false) : binOp .eql t (.string a) (.string b) = pure (.bool false) := by
  rw [binOp_string_eql, h]
@[go_sem] theorem binOp_string_eql_same (t : TypeId) (a : ByteArray) : binOp .eql t (.string a) (.string a) = pure (.bool true) := by
  rw [binOp_string_eql]; simp
def allB (m : Nat) (p : Nat → Bool) : Bool := (List.range m).all p
theorem allB_true {m : Nat} {p : Nat → Bool} (h : ∀ i, i < m → p i = true) : allB m p = true := by
  unfold allB; rw [List.all_eq_true]; intro i hi; exact h i (List.mem_range.1 hi)
theorem allB_false {m : Nat} {p : Nat → Bool} {i : Nat} (hi : i < m) (h : p i = false) : allB m p = false := by
  unfold allB
  cases hb : (List.range m).all p
  · rfl
  · rw [List.all_eq_true] at hb
    have := hb i (List.mem_range.2 hi)
    rw [h] at this; cases this
theorem allB_iff {m : Nat} {p : Nat → Bool} : allB m p = true ↔ ∀ i, i < m → p i = true := by
  unfold allB; rw [List.all_eq_true]
  exact ⟨fun h i hi => h i (List.mem_range.2 hi), fun h i hi => h i (List.mem_range.1 hi)⟩
theorem inB_iff {lo hi n : Int} : inB lo hi n = true ↔ lo ≤ n ∧ n ≤ hi := by unfold inB; simp
theorem bool_false {b : Bool} (h : ¬ b = true) : b = false := by cases b <;> simp_all
end Go.Proofs.YtgkbbpajkbkgnaaGreatDoor

namespace Go.Proofs.YtgkbbpajkbkgnaaGreatDoor
open Go.RowKit
theorem wp_region_cls {P : Program} {id : Nat} {Q : Exit → Act → World → Prop} {a : Act} {w : World} {l : List Oper} (C : World → Prop) (hm : P.follows .mixedOrders = true) (hB : Region.lexB .any l.toArray = true) (hC : C w.drew)
    (h : wpQuiet P l.toArray C (fun a' => ∀ w', C w' → Q .normal a' w') l a) : (Code.region id l.toArray true).wp P Q a w :=
  wp_region_quiet (C := C) hm hB hC (by simpa using h)
end Go.Proofs.YtgkbbpajkbkgnaaGreatDoor

namespace Go.Proofs.YtgkbbpajkbkgnaaGreatDoor
open Go.RowKit
structure TabD where
  vars : Nat
  nums : List Nat
  basis : List Int
def RdTb (w : World) (v : Value) (t : TabD) : Prop := ∃ va vb, v = .agg #[.int .i64 t.vars, va, vb] ∧ RdF w va t.nums ∧ RdI w vb t.basis
theorem RdTb.shape {w : World} {v : Value} {t : TabD} (h : RdTb w v t) : ∃ a c b d, v = .agg #[.int .i64 t.vars, .slice a t.nums.length c, .slice b t.basis.length d] := by
  obtain ⟨va, vb, rfl, h1, h2⟩ := h
  obtain ⟨a, c, rfl⟩ := h1.shape
  obtain ⟨b, d, rfl⟩ := h2.shape
  exact ⟨a, c, b, d, rfl⟩
theorem RdTb.parts {w : World} {x0 x y : Value} {t : TabD} (h : RdTb w (.agg #[x0, x, y]) t) : RdF w x t.nums ∧ RdI w y t.basis := by
  obtain ⟨va, vb, e, h1, h2⟩ := h
  simp only [Value.agg.injEq, Array.mk.injEq, List.cons.injEq, and_true] at e
  obtain ⟨_, rfl, rfl⟩ := e
  exact ⟨h1, h2⟩
theorem RdTb.up {w w' : World} {v : Value} {t : TabD} {B : Nat} (h : RdTb w v t) (hb : Below B w w') (hB : w.heap.size ≤ B) : RdTb w' v t := by
  obtain ⟨va, vb, e, h1, h2⟩ := h
  exact ⟨va, vb, e, h1.up hb hB, h2.up hb hB⟩
def wdT (t : TabD) : Nat := t.vars + t.basis.length + 1
structure DimT (t : TabD) : Prop where
  v1 : 1 ≤ t.vars
  v8 : t.vars ≤ 8
  b1 : 1 ≤ t.basis.length
  b8 : t.basis.length ≤ 8
  nl : t.nums.length = wdT t * (t.basis.length + 1)
theorem DimT.w17 {t : TabD} (h : DimT t) : 3 ≤ wdT t ∧ wdT t ≤ 17 := by have := h.v1; have := h.v8; have := h.b1; have := h.b8; unfold wdT; omega
theorem DimT.ix {t : TabD} (h : DimT t) {i k : Nat} (hi : i ≤ t.basis.length) (hk : k < wdT t) : i * wdT t + k < t.nums.length := by
  rw [h.nl, Nat.mul_comm (wdT t)]
  have : (i + 1) * wdT t ≤ (t.basis.length + 1) * wdT t := Nat.mul_le_mul_right _ (by omega)
  rw [Nat.add_mul] at this
  omega
theorem DimT.n153 {t : TabD} (h : DimT t) : t.nums.length ≤ 153 := by
  have h1 := h.w17
  have h2 := h.b8
  rw [h.nl]
  exact Nat.le_trans (Nat.mul_le_mul h1.2 (show t.basis.length + 1 ≤ 9 by omega)) (by decide)
def atT (t : TabD) (i k : Nat) : Nat := t.nums.getD (i * wdT t + k) 0
set_option maxHeartbeats 1000000 in
theorem tabWide_any (v : Value) (t : TabD) (w : World) (h : RdTb w v t) (hd : DimT t) :
    Calls Tryz.prog 321 #[v] w fun e w' => e = .returned (.int .i64 (wdT t : Nat)) ∧ Below w.heap.size w w' := by
  obtain ⟨a, c, b, d, rfl⟩ := h.shape
  have h8 := hd.v8
  have hb8 := hd.b8
  have HW := Lib.hid (show ((wdT t : Nat) : Int) = (t.vars : Int) + t.basis.length + 1 by unfold wdT; push_cast; rfl)
  obtain ⟨V, hV⟩ : ∃ V, V = t.vars := ⟨_, rfl⟩
  obtain ⟨N, hN⟩ : ∃ N, N = t.basis.length := ⟨_, rfl⟩
  rw [← hV] at h8 HW ⊢
  rw [← hN] at hb8 HW ⊢
  clear hd hV hN h
  go_enter Tryz.func321, Tryz.ntmps321
  go_wp2_with fail
  go_ret
  exact ⟨by rw [HW.out]; rfl, by (repeat' first | exact Below.refl _ _ | assumption | refine Below.alloc ?_ ?_ _ | refine Below.setCell ?_ ?_ _ | refine Below.drew ?_ | (simp; done) | (simp; omega))⟩
set_option maxHeartbeats 1000000 in
theorem tabAt_any (v : Value) (t : TabD) (i k : Nat) (w : World) (h : RdTb w v t) (hd : DimT t) (hi : i ≤ t.basis.length) (hk : k < wdT t) :
    Calls Tryz.prog 322 #[v, .int .i64 i, .int .i64 k] w fun e w' => e = .returned (.float .f32 (atT t i k)) ∧ Below w.heap.size w w' := by
  have HRT := Lib.hid h
  obtain ⟨a, c, b, d, rfl⟩ := h.shape
  have hx := hd.ix hi hk
  have hn := hd.n153
  have h17 := hd.w17
  have hb8 := hd.b8
  obtain ⟨gb, go, rfl, _, hc⟩ := h.parts.1.at hx
  obtain ⟨x, hxe⟩ : ∃ x, x = atT t i k := ⟨_, rfl⟩
  rw [show t.nums.getD (i * wdT t + k) 0 = x from hxe.symm] at hc
  rw [← hxe]
  obtain ⟨W, hW⟩ : ∃ W, W = wdT t := ⟨_, rfl⟩
  obtain ⟨m, hm⟩ : ∃ m, m = i * W + k := ⟨_, rfl⟩
  obtain ⟨p, hp⟩ : ∃ p, p = i * W := ⟨_, rfl⟩
  have e1 : (i : Int) * (W : Int) = (p : Int) := by rw [hp]; push_cast; rfl
  have e2 : (p : Int) + (k : Int) = (m : Int) := by rw [hm, ← hp]; push_cast; rfl
  have hpm : p ≤ m := by omega
  have hm153 : m < 153 := by rw [← hW, ← hm] at hx; omega
  have hw1 : IntKind.i64.wrap (p : Int) = (p : Int) := IntWalk.i64_in _ (by omega)
  have hw2 : IntKind.i64.wrap ((p : Int) + (k : Int)) = (m : Int) := by rw [e2]; exact IntWalk.i64_in _ (by omega)
  rw [← hW] at hx hc hk h17
  rw [← hm] at hx hc
  have HW := Lib.hid (fun X (hb : Below w.heap.size w X) => tabWide_any _ t X (HRT.out.up hb (Nat.le_refl _)) hd)
  rw [← hW] at HW
  obtain ⟨N, hN⟩ : ∃ N, N = t.nums.length := ⟨_, rfl⟩
  rw [← hN] at hx hn HW ⊢
  have hxI : (m : Int) < (N : Int) := by omega
  clear h hd hxe hW hm hN HRT hp e2
  go_enter Tryz.func322, Tryz.ntmps322
  go_upto_region 1 with fail
  refine wp_at fun W0 hW0 => ?_
  have HB0 := Lib.hid (show Below w.heap.size w W0 by subst hW0; (repeat' first | exact Below.refl _ _ | assumption | refine Below.alloc ?_ ?_ _ | refine Below.setCell ?_ ?_ _ | refine Below.drew ?_ | (simp; done) | (simp; omega)))
  have HK0 := Lib.hid (show Blk W0 w.heap.size 258 #[.int .i64 t.vars, .slice (some ⟨gb, go, none⟩) N c, .slice b t.basis.length d] by subst hW0; exact Blk.new _ _ _)
  clear hW0
  have d0 : W0.cell? ⟨w.heap.size, 0, none⟩ = some (.int .i64 t.vars) := HK0.out.cell 0 rfl
  have d1 : W0.cell? ⟨w.heap.size, 1, none⟩ = some (.slice (some ⟨gb, go, none⟩) N c) := HK0.out.cell 1 rfl
  have d2 : W0.cell? ⟨w.heap.size, 2, none⟩ = some (.slice b t.basis.length d) := HK0.out.cell 2 rfl
  have hc0 := held_of HB0.out hc (Nat.le_refl _)
  have hz0 := HB0.out.size
  clear hc
  refine wp_region_cls (fun X => X.cell? ⟨w.heap.size, 0, none⟩ = some (.int .i64 t.vars) ∧ X.cell? ⟨w.heap.size, 1, none⟩ = some (.slice (some ⟨gb, go, none⟩) N c) ∧ X.cell? ⟨w.heap.size, 2, none⟩ = some (.slice b t.basis.length d) ∧ X.cell? ⟨gb, go + m, none⟩ = some (.float .f32 x) ∧ Hid (Below W0.heap.size W0 X)) (by kernel_rfl) (by kernel_rfl) (⟨d0, d1, d2, hc0, (Below.refl _ _).drew⟩) ?_
  repeat (first
    | go_big_quiet_skip
    | (go_big_quiet_want
       apply Exists.intro
       refine ⟨fun X hX => ?_, ?_⟩
       · (try dsimp only at hX)
         go_simp
         (first | with_reducible rfl | done | (have hcur := hX.2.2.2.2; go_at_call 321; refine (HW.out X (HB0.out.trans (hcur.out.mono hz0))).mono ?_; rintro e w2 ⟨rfl, hb2⟩; have hbn := hcur.out.trans (hb2.mono hcur.out.size); exact ⟨rfl, held_of hbn d0 (Nat.le_refl _), held_of hbn d1 (Nat.le_refl _), held_of hbn d2 (Nat.le_refl _), held_of hbn hc0 (Nat.le_refl _), hbn⟩))
       go_big_quiet_on
       (try simp only [Act.put, List.setIfInBounds_toArray, List.set_cons_zero, List.set_cons_succ])))
  refine wpQuiet_nil ?_
  intro w1 hC
  (try dsimp only at hC)
  go_wp2_with fail
  go_ret
  exact ⟨rfl, HB0.out.trans (hC.2.2.2.2.out.mono hz0)⟩
end Go.Proofs.YtgkbbpajkbkgnaaGreatDoor

namespace Go.Proofs.YtgkbbpajkbkgnaaGreatDoor
open Go.RowKit
def negF (x : Nat) : Nat := Go.Op.negFloat .f32 x
def ltF (x y : Nat) : Bool := FloatKind.f32.format.order x y == some .lt
def eqF (x y : Nat) : Bool := FloatKind.f32.format.order x y == some .eq
def oneF : Nat := 1065353216
def colsT (t : TabD) : Nat := t.vars + t.basis.length
def lastT (t : TabD) (i : Nat) : Nat := atT t i (colsT t)
def entersAt (t : TabD) (near c : Nat) : Bool := ltF (atT t t.basis.length c) (negF near)
def enterT (t : TabD) (near : Nat) : Int := match (List.range (colsT t)).find? (entersAt t near) with
  | some c => (c : Int)
  | none => -1
theorem find_first {p : Nat → Bool} {n c : Nat} (hc : c < n) (h : p c = true) (h0 : ∀ j, j < c → p j = false) : (List.range n).find? p = some c := by
  rw [List.find?_eq_some_iff_getElem]
  refine ⟨h, c, by simpa using hc, by simp, fun j hj => ?_⟩
  simp [h0 j hj]
theorem find_none {p : Nat → Bool} {n : Nat} (h0 : ∀ j, j < n → p j = false) : (List.range n).find? p = none := by
  rw [List.find?_eq_none]
  intro x hx
  rw [h0 x (List.mem_range.1 hx)]
  simp
theorem enterT_at {t : TabD} {near c : Nat} (hc : c < colsT t) (h : entersAt t near c = true) (h0 : ∀ j, j < c → entersAt t near j = false) : enterT t near = (c : Int) := by
  unfold enterT
  rw [find_first hc h h0]
theorem enterT_none {t : TabD} {near : Nat} (h0 : ∀ j, j < colsT t → entersAt t near j = false) : enterT t near = -1 := by
  unfold enterT
  rw [find_none h0]
theorem enterT_rng (t : TabD) (near : Nat) : enterT t near = -1 ∨ ∃ c : Nat, c < colsT t ∧ enterT t near = (c : Int) := by
  unfold enterT
  cases h : (List.range (colsT t)).find? (entersAt t near) with
  | none => exact .inl rfl
  | some c =>
    have := List.mem_of_find?_eq_some h
    exact .inr ⟨c, List.mem_range.1 this, rfl⟩
def leaveK (t : TabD) (col near : Nat) : Nat → Int × Nat
  | 0 => (-1, 0)
  | i + 1 => if gtF (atT t i col) near = true then
      (if ((decide ((leaveK t col near i).1 < 0) || ltF (divV (lastT t i) (atT t i col)) (leaveK t col near i).2) || (eqF (divV (lastT t i) (atT t i col)) (leaveK t col near i).2 && decide (t.basis.getD i 0 < t.basis.getD (leaveK t col near i).1.toNat 0))) = true then ((i : Int), divV (lastT t i) (atT t i col)) else leaveK t col near i)
    else leaveK t col near i
def leaveT (t : TabD) (col near : Nat) : Int := (leaveK t col near t.basis.length).1
theorem leaveK_rng (t : TabD) (col near : Nat) : ∀ i, (leaveK t col near i).1 = -1 ∨ ∃ r : Nat, r < i ∧ (leaveK t col near i).1 = (r : Int) ∧ gtF (atT t r col) near = true
  | 0 => .inl rfl
  | i + 1 => by
    have ih := leaveK_rng t col near i
    simp only [leaveK]
    split
    · rename_i h
      split
      · exact .inr ⟨i, by omega, rfl, h⟩
      · rcases ih with e | ⟨r, h1, h2⟩
        · exact .inl e
        · exact .inr ⟨r, by omega, h2⟩
    · rcases ih with e | ⟨r, h1, h2⟩
      · exact .inl e
      · exact .inr ⟨r, by omega, h2⟩
def ownV (t : TabD) (row col c : Nat) : Nat := if c = col then oneF else divV (atT t row c) (atT t row col)
def othO (t : TabD) (row col i c : Nat) : Option Nat := if c = col then some 0 else (Ieee.single.mul (atT t i col) (ownV t row col c)).bind fun q => Ieee.single.sub (atT t i c) q
def cellO (t : TabD) (row col i c : Nat) : Option Nat := if i = row then some (ownV t row col c) else othO t row col i c
def pivO (t : TabD) (row col : Nat) : List (Option Nat) := (List.range t.nums.length).map fun x => cellO t row col (x / wdT t) (x % wdT t)
def pivB (t : TabD) (row col : Nat) : List Int := t.basis.set row (col : Int)
def basOk (n : Nat) (l : List Int) : Bool := allB l.length fun i => inB 0 ((n : Int) - 1) (l.getD i 0) && !hasB (l.take i) (l.getD i 0)
def pivOk (t : TabD) (row col : Nat) : Bool := (pivO t row col).all finO && basOk (colsT t) (pivB t row col)
def pivT (t : TabD) (row col : Nat) : TabD := ⟨t.vars, (pivO t row col).map (fun o => o.getD 0), pivB t row col⟩
theorem pivO_len (t : TabD) (row col : Nat) : (pivO t row col).length = t.nums.length := by unfold pivO; simp
theorem pivB_len (t : TabD) (row col : Nat) : (pivB t row col).length = t.basis.length := by unfold pivB; simp
theorem pivT_dim {t : TabD} (h : DimT t) (row col : Nat) : DimT (pivT t row col) := by
  refine ⟨h.v1, h.v8, ?_, ?_, ?_⟩
  · show 1 ≤ (pivB t row col).length; rw [pivB_len]; exact h.b1
  · show (pivB t row col).length ≤ 8; rw [pivB_len]; exact h.b8
  · show ((pivO t row col).map _).length = (t.vars + (pivB t row col).length + 1) * ((pivB t row col).length + 1)
    rw [List.length_map, pivO_len, pivB_len, h.nl]
    rfl
structure GoodT (t : TabD) : Prop where
  dim : DimT t
  fin : allFin t.nums = true
  bas : ∀ i, i < t.basis.length → 0 ≤ t.basis.getD i 0 ∧ t.basis.getD i 0 < (colsT t : Nat)
theorem GoodT.at {t : TabD} (h : GoodT t) {i k : Nat} (hi : i ≤ t.basis.length) (hk : k < wdT t) : fin32 (atT t i k) = true := allFin_get h.fin (h.dim.ix hi hk)
theorem pivT_good {t : TabD} (h : GoodT t) {row col : Nat} (ho : pivOk t row col = true) : GoodT (pivT t row col) := by
  unfold pivOk at ho
  rw [Bool.and_eq_true, List.all_eq_true] at ho
  refine ⟨pivT_dim h.dim row col, ?_, fun i hi => ?_⟩
  · unfold allFin pivT
    rw [List.all_eq_true]
    intro x hx
    rw [List.mem_map] at hx
    obtain ⟨o, ho1, rfl⟩ := hx
    have := ho.1 o ho1
    cases o with
    | none => cases this
    | some v => exact this
  · have h2 := ho.2
    unfold basOk at h2
    rw [allB_iff] at h2
    have h3 := h2 i hi
    rw [Bool.and_eq_true, inB_iff] at h3
    have e : colsT (pivT t row col) = colsT t := by
      show t.vars + (pivB t row col).length = _
      rw [pivB_len]
      rfl
    rw [e]
    have : (pivT t row col).basis = pivB t row col := rfl
    rw [this]
    omega
def solveO (near : Nat) : Nat → TabD → Option TabD
  | 0, t => if enterT t near < 0 then some t else none
  | F + 1, t => if enterT t near < 0 then some t
    else if leaveT t (enterT t near).toNat near < 0 then none
    else if pivOk t (leaveT t (enterT t near).toNat near).toNat (enterT t near).toNat = true then solveO near F (pivT t (leaveT t (enterT t near).toNat near).toNat (enterT t near).toNat) else none
theorem solveO_good {near : Nat} : ∀ (F : Nat) (t t' : TabD), GoodT t → solveO near F t = some t' → GoodT t'
  | 0, t, t', h, e => by
    simp only [solveO] at e
    split at e
    · cases e; exact h
    · cases e
  | F + 1, t, t', h, e => by
    simp only [solveO] at e
    split at e
    · cases e; exact h
    · split at e
      · cases e
      · split at e
        · rename_i h3
          exact solveO_good F _ t' (pivT_good h h3) e
        · cases e
def unitsL (n i : Nat) : List Nat := (List.range n).map fun k => if k = i then oneF else 0
def tabN (r : RowsD) : Nat → List Nat
  | 0 => []
  | i + 1 => tabN r i ++ (rowO r i ++ unitsL r.bnds.length i ++ [r.bnds.getD i 0])
def tabG (r : RowsD) (k : Nat) : List Nat := (r.gains.take k).map negF
def tabB (r : RowsD) (i : Nat) : List Int := (List.range i).map fun k : Nat => r.vars + (k : Int)
def tableT (r : RowsD) : TabD := ⟨r.gains.length, tabN r r.bnds.length ++ tabG r r.gains.length ++ List.replicate (r.bnds.length + 1) 0, tabB r r.bnds.length⟩
def planK (t : TabD) : Nat → List Nat
  | 0 => List.replicate t.vars 0
  | i + 1 => if t.basis.getD i 0 < (t.vars : Int) then (planK t i).set (t.basis.getD i 0).toNat (lastT t i) else planK t i
def planT (t : TabD) : List Nat := planK t t.basis.length
def priceK (t : TabD) (k : Nat) : List Nat := (List.range k).map fun c => atT t t.basis.length (t.vars + c)
def priceT (t : TabD) : List Nat := priceK t t.basis.length
theorem planK_len (t : TabD) : ∀ i, (planK t i).length = t.vars
  | 0 => List.length_replicate
  | i + 1 => by
    simp only [planK]
    split
    · rw [List.length_set, planK_len t i]
    · exact planK_len t i
end Go.Proofs.YtgkbbpajkbkgnaaGreatDoor
