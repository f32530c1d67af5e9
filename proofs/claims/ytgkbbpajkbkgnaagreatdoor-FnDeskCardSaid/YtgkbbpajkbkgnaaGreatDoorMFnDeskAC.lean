/-
  FnDesk: texts joined: Step, AppF, ValidRS, Round, Left, LeftI, LeftS, Quo, OwnRows, OwnB, OwnSpec.
-/
import Derived.Deep.RegionHeld3
import Derived.Deep.CutRange
import Derived.Deep.RegionLaw
import Derived.Deep.AppendLies
import Derived.Test.YtgkbbpajkbkgnaaGreatDoorMFnDeskAA
import Derived.Test.YtgkbbpajkbkgnaaGreatDoorMFnDeskAB
set_option linter.unusedVariables false
set_option linter.unusedSimpArgs false
namespace Go.Proofs.YtgkbbpajkbkgnaaGreatDoor
open Go.RowKit
theorem wp_app_ints {w : World} {o : Oper} {a : Act} {K : Act → World → Prop} {Q : Exit → Act → World → Prop} (s x : Operand)
    (ho : o.op = .call { callee := .builtin .append, args := #[s, x], argTypes := #[27, 27] })
    (base : Nat) (v : Value) (n : Nat) (xs : List Int) (hs : a.eval s = v) (hown : w.ownsRow base 2 1 v n (xs.map I64))
    (sv : Value) (news : List Int) (hx : a.eval x = sv) (hsv : Slc w sv (news.map I64)) (m : Nat) (ys : List Int) (hm : m = n + news.length) (hys : ys = xs ++ news) (hlen : m ≤ 17592186044416) (hbase : base ≤ w.heap.size)
    (h : ∀ a' cap' w', w'.ownsRow base 2 1 (.slice a' m cap') m (ys.map I64) → Below base w w' → w.grownBy w' v.ownBlock → (Value.slice a' m cap' = .slice none 0 0 ↔ v = .slice none 0 0 ∧ news = []) → K (a.put o.dst (.slice a' m cap')) w') :
    o.wp Tryz.prog a w K Q := by
  obtain ⟨i0, hi, hz0, hz1, hz2⟩ := info_parts Tryz.infoI64
  subst hm hys
  have hk : ∀ v' w', w'.ownsRow base 2 1 v' (n + news.length) (xs.map I64 ++ news.map I64) → w.grownBy w' v.ownBlock → (v' = .slice none 0 0 ↔ v = .slice none 0 0 ∧ news = []) → K (a.put o.dst v') w' := by
    intro v' w' h1 h2 h3
    have h1' : w'.ownsRow base 2 1 v' (n + news.length) ((xs ++ news).map I64) := by simpa using h1
    obtain ⟨a', cap', rfl⟩ := owns_shape h1'
    exact h a' cap' w' h1' (below_grown hown hbase h2) h2 h3
  rcases hsv with ⟨rfl, hnil⟩ | ⟨ad, cap, rfl, hcl, hcm, hc⟩
  · have hn : news = [] := by simpa using hnil
    subst hn
    have hrun := run_append_owned_none (P := Tryz.prog) (w := w) base 27 o.type 2 i0 1 Tryz.underlying27 hi v n (xs.map I64) hown
    unfold Oper.wp
    simp [execOp, ho, resolve, invoke, builtin, hs, hx, hrun, Result.andThen]
    exact hk v w (by simpa using hown) (World.grownBy.refl _ _) (by simp)
  · refine wp_append_own w s x 27 ho base 2 i0 (.int .i64 0) 1 8 Tryz.underlying27 hi hz0 hz1 hz2 rfl (by decide) v n (xs.map I64) hs hown ad (news.map I64).length cap (news.map I64) hx (by simp) hc (i64_one news) (by simp [maxLen]; omega) (by simp; omega) hbase ?_
    intro v' w' h2 h3 h4
    exact hk v' w' (by simpa using h2) h3 (by rw [h4]; simp)
theorem step_app_own {w : World} {ops : Array Oper} {o : Oper} {a : Act} {K : Act → World → Prop} {Q : Exit → Act → World → Prop} {E : Prop} (hgd : o.guard = none) (s x : Operand)
    (ho : o.op = .call { callee := .builtin .append, args := #[s, x], argTypes := #[27, 27] })
    (base : Nat) (ad : Addr) (n cap : Nat) (xs : List Int) (hs : a.eval s = .slice (some ad) n cap) (hown : w.ownsRow base 2 1 (.slice (some ad) n cap) n (xs.map I64))
    (sv : Value) (news : List Int) (hx : a.eval x = sv) (hsv : Slc w sv (news.map I64)) (m : Nat) (ys : List Int) (hm : m = n + news.length) (hys : ys = xs ++ news) (hlen : m ≤ 17592186044416) (hbase : base ≤ w.heap.size)
    (h : ∀ g cap' w', w'.ownsRow base 2 1 (.slice (some ⟨g, 0, none⟩) m cap') m (ys.map I64) → Below base w w' → w.grownBy w' (Value.slice (some ad) n cap).ownBlock → K (a.put o.dst (.slice (some ⟨g, 0, none⟩) m cap')) w') :
    if Region.wanted o (yielded ops a.tmps) = true then Oper.wp Tryz.prog o a w K Q else E := by
  have hw : Region.wanted o (yielded ops a.tmps) = true := by simp [Region.wanted, hgd]
  rw [if_pos hw]
  refine wp_app_ints s x ho base _ n xs hs hown sv news hx hsv m ys hm hys hlen hbase ?_
  intro a' cap' w' h1 h2 h3 h4
  obtain ⟨g, c, e, _⟩ := owns_some h1 (by intro e; have := h4.1 e; simp at this)
  simp only [Value.slice.injEq, true_and] at e
  obtain ⟨rfl, rfl⟩ := e
  exact h g _ w' h1 h2 h3
theorem slc_keptB {S : Nat → Prop} {w w' : World} {ad : Addr} {n cap : Nat} {vs : List Value} (h : Slc w (.slice (some ad) n cap) vs) (hk : Kept S w w') (hs : ¬ S ad.block) : Slc w' (.slice (some ad) n cap) vs := by
  rcases h with ⟨e1, _⟩ | ⟨ad2, cap2, e1, h1, h2, hc⟩
  · simp at e1
  · simp only [Value.slice.injEq, Option.some.injEq] at e1
    obtain ⟨rfl, rfl, rfl⟩ := e1
    refine .inr ⟨ad, cap, rfl, h1, h2, fun i u hi => ?_⟩
    have h0 := hc i u hi
    rw [hk.cell (cell_lt h0) (by rw [addr_add_block]; exact hs)]
    exact h0
theorem slc_grown {w w' : World} {ad : Addr} {n cap : Nat} {vs : List Value} {row : Option Nat} (h : Slc w (.slice (some ad) n cap) vs) (hg : w.grownBy w' row) (hne : row ≠ some ad.block) : Slc w' (.slice (some ad) n cap) vs :=
  slc_keptB (S := fun k => row = some k) h ⟨hg.os, hg.tape, hg.output, hg.size, fun k hk hn => hg.block k hk fun e => hn e.symm⟩ hne
theorem slc_drew {w : World} {v : Value} {vs : List Value} (h : Slc w v vs) : Slc w.drew v vs := h
theorem slc_alloc {w : World} {v : Value} {vs : List Value} (h : Slc w v vs) (o : Obj) : Slc (w.alloc o) v vs := h.below ((Below.refl _ _).alloc (Nat.le_refl _) _) (Nat.le_refl _)
theorem slc_oneB (w : World) (z : Int) (b : Nat) (hb : b = w.heap.size) : Slc (w.alloc (.cells #[.int .i64 z] 2)) (.slice (some ⟨b, 0, none⟩) 1 1) ([z].map I64) := by subst hb; exact slc_one w z
theorem owns_emptyB (w : World) (b : Nat) (hb : b = w.heap.size) : (w.alloc (.cells #[] 2)).ownsRow w.heap.size 2 1 (.slice (some ⟨b, 0, none⟩) 0 0) 0 (([] : List Int).map I64) := by subst hb; exact owns_empty w
theorem owns_drew {w : World} {base : Nat} {e : TypeId} {v : Value} {n : Nat} {vs : List Value} (h : w.ownsRow base e 1 v n vs) : w.drew.ownsRow base e 1 v n vs := h
end Go.Proofs.YtgkbbpajkbkgnaaGreatDoor

namespace Go.Proofs.YtgkbbpajkbkgnaaGreatDoor
open Go.RowKit
theorem f32_one (xs : List Nat) : ∀ u ∈ xs.map F32, u.oneCell' = true := by
  intro u hu
  obtain ⟨x, _, rfl⟩ := List.mem_map.1 hu
  rfl
theorem app_flts {w : World} {ops : Array Oper} {rest : List Oper} {o : Oper} {a : Act} {Q : Exit → Act → World → Prop} (hgd : o.guard = none) (s x : Operand)
    (ho : o.op = .call { callee := .builtin .append, args := #[s, x], argTypes := #[24, 24] })
    (base : Nat) (v : Value) (n : Nat) (xs : List Nat) (hs : a.eval s = v) (hown : w.ownsRow base 100 1 v n (xs.map F32))
    (sv : Value) (news : List Nat) (hx : a.eval x = sv) (hsv : Slc w sv (news.map F32)) (m : Nat) (ys : List Nat) (hm : m = n + news.length) (hys : ys = xs ++ news) (hlen : m ≤ 17592186044416) (hbase : base ≤ w.heap.size)
    (h : ∀ a' cap' w', w'.ownsRow base 100 1 (.slice a' m cap') m (ys.map F32) → Below base w w' → w.grownBy w' v.ownBlock → (Value.slice a' m cap' = .slice none 0 0 ↔ v = .slice none 0 0 ∧ news = []) → wpList Tryz.prog ops Q rest (a.put o.dst (.slice a' m cap')) w') :
    wpList Tryz.prog ops Q (o :: rest) a w := by
  obtain ⟨i0, hi, hz0, hz1, hz2⟩ := info_parts Tryz.infoF32
  subst hm hys
  refine wpList_append_slc hgd s x 24 ho base 100 i0 (.float .f32 0) 4 Tryz.underlying24 hi hz0 hz1 hz2 rfl v n (xs.map F32) hs hown sv (news.map F32) hx hsv (f32_one news) (by simp [maxLen]; omega) (by simp; omega) hbase ?_
  intro v' w' h1 h2 h3
  have h1' : w'.ownsRow base 100 1 v' (n + news.length) ((xs ++ news).map F32) := by simpa using h1
  obtain ⟨a', cap', rfl⟩ := owns_shape h1'
  exact h a' cap' w' h1' (below_grown hown hbase h2) h2 (by simpa using h3)
theorem slcF_one (w : World) (z : Nat) : Slc (w.alloc (.cells #[.float .f32 z] 100)) (.slice (some ⟨w.heap.size, 0, none⟩) 1 1) ([z].map F32) := by
  have h := World.ownsRow_lit (base := w.heap.size) (e := 100) (size := 1) w #[.float .f32 z] 1 (Nat.le_refl _) (by simp [maxLen]) rfl
  exact slc_of_owns h
theorem ownsF_empty (w : World) : (w.alloc (.cells #[] 100)).ownsRow w.heap.size 100 1 (.slice (some ⟨w.heap.size, 0, none⟩) 0 0) 0 (([] : List Nat).map F32) :=
  World.ownsRow_lit (base := w.heap.size) (e := 100) (size := 1) w #[] 0 (Nat.le_refl _) (by simp [maxLen]) rfl
set_option maxHeartbeats 400000 in
theorem copyF_any (v : Value) (xs : List Nat) (w : World) (h : RdF w v xs) (hb : xs.length ≤ 17592186044416) :
    Calls Tryz.prog 131 #[v] w fun e w' => ∃ v', e = .returned v' ∧ OwnF w.heap.size w'.heap.size w' v' xs ∧ Below w.heap.size w w' := by
  obtain ⟨a, cap, rfl⟩ := h.shape
  have hsl := (show Slc w _ (xs.map F32) from h).below (Below.alloc (Below.refl w.heap.size w) (Nat.le_refl _) (.cells #[] 100)) (Nat.le_refl _)
  have HS := Lib.hid h
  clear h
  go_enter Tryz.func131, Tryz.ntmps131
  go_wp2_with (at_builtin; refine app_flts rfl _ _ rfl w.heap.size (.slice (some ⟨w.heap.size, 0, none⟩) 0 0) 0 [] rfl (ownsF_empty w) _ xs rfl hsl xs.length xs (by simp) (by simp) hb (by simp) ?_; intro a2 cap' w1 hown hbl hg _)
  go_ret
  exact ⟨_, rfl, OwnF.mk hown, ((Below.refl _ _).alloc (Nat.le_refl _) _).trans hbl⟩
end Go.Proofs.YtgkbbpajkbkgnaaGreatDoor

namespace Go.Proofs.YtgkbbpajkbkgnaaGreatDoor
open Go.RowKit
end Go.Proofs.YtgkbbpajkbkgnaaGreatDoor

namespace Go.Proofs.YtgkbbpajkbkgnaaGreatDoor
open Go.RowKit
set_option maxHeartbeats 1000000 in
theorem isX_any (v : Value) (r : RowsD) (u : Value) (x : List Nat) (w : World) (h : RdR w v r) (hu : RdF w u x) :
    Calls Tryz.prog 289 #[v, u] w fun e w' => e = .returned (.bool (((x.length : Int) == r.vars) && allFin x)) ∧ Below w.heap.size w w' := by
  obtain ⟨a1, c1, a2, c2, a3, c3, rfl⟩ := h.shape
  obtain ⟨a, c, rfl⟩ := hu.shape
  obtain ⟨n0, x1, x2, x3⟩ := r
  have l1 := hu.len
  unfold maxLen at l1
  simp only
  have HU := Lib.hid hu
  clear h hu
  obtain ⟨q, hq⟩ : ∃ q, q = ((x.length : Int) == n0) := ⟨_, rfl⟩
  rw [← hq]
  cases q
  all_goals
    go_enter Tryz.func289, Tryz.ntmps289
    go_wp2_with fail
    refine wp_at fun W hW => ?_
    have HB := Lib.hid (show Below w.heap.size w W by subst hW; (repeat' first | exact Below.refl _ _ | assumption | refine Below.alloc ?_ ?_ _ | refine Below.setCell ?_ ?_ _ | refine Below.drew ?_ | (simp; done) | (simp; omega)))
    have HK := Lib.hid (show Blk W w.heap.size 26 #[.int .i64 n0, .slice a1 x1.length c1, .slice a2 x2.length c2, .slice a3 x3.length c3] by subst hW; exact Blk.new _ _ _)
    have HUW := Lib.hid (HU.out.up HB.out (Nat.le_refl _))
    have d0 : W.cell? ⟨w.heap.size, 0, none⟩ = some (.int .i64 n0) := HK.out.cell 0 rfl
    have hqb := hq.symm
    clear hW hq
    go_quiet (first
      | (go_at_call 66; exact quiet_same (size_any _ _ (by unfold maxLen; omega)))
      | (go_at_call 116; exact areFinite_qs _ x _ _ HUW.out))
    go_wp2_with fail
    go_ret
    exact ⟨rfl, below_drewN HB.out _⟩
end Go.Proofs.YtgkbbpajkbkgnaaGreatDoor

namespace Go.Proofs.YtgkbbpajkbkgnaaGreatDoor
open Go.RowKit
def rowO (r : RowsD) (i : Nat) : List Nat := (r.nums.drop (i * r.gains.length)).take r.gains.length
noncomputable def fitX (r : RowsD) (x : List Nat) : Bool := validR r && (((x.length : Int) == r.vars) && allFin x)
def gainO (r : RowsD) (x : List Nat) : Option Nat := dotO r.gains x r.gains.length
noncomputable def gainOk (r : RowsD) (x : List Nat) : Bool := fitX r x && finO (gainO r x)
noncomputable def gainV (r : RowsD) (x : List Nat) : Nat := if gainOk r x = true then (gainO r x).getD 0 else 0
theorem sub_nanR {x y : Nat} (h : nan32 y = true) : Ieee.single.sub x y = none := by
  unfold nan32 at h
  unfold Ieee.Format.sub
  cases hr : Ieee.single.read y with
  | nan a b => cases Ieee.single.read x <;> simp [Ieee.Datum.sum, Ieee.Datum.opposite]
  | infinity s => rw [hr] at h; simp [Ieee.Datum.isNaN] at h
  | number s m e => rw [hr] at h; simp [Ieee.Datum.isNaN] at h
theorem rowO_len {r : RowsD} (hv : ValR r) {i : Nat} (hi : i < r.bnds.length) : (rowO r i).length = r.gains.length := by
  have h1 := hv.gl
  have h2 := hv.nl
  rw [← h1] at h2
  have h3 : r.nums.length = r.gains.length * r.bnds.length := by exact_mod_cast h2
  have h4 : (i + 1) * r.gains.length ≤ r.nums.length := by rw [h3, Nat.mul_comm]; exact Nat.mul_le_mul_left _ hi
  rw [Nat.add_mul] at h4
  unfold rowO
  rw [List.length_take, List.length_drop]
  omega
theorem rowO_fin {r : RowsD} (hv : ValR r) (i : Nat) : allFin (rowO r i) = true := by
  have h := hv.fn
  unfold allFin at h ⊢
  rw [List.all_eq_true] at h ⊢
  intro y hy
  unfold rowO at hy
  exact h y (List.mem_of_mem_drop (List.mem_of_mem_take hy))
theorem rdF_piece {w : World} {b off n cap : Nat} {xs : List Nat} (h : RdF w (.slice (some ⟨b, off, none⟩) n cap) xs) (m k : Nat) (hk : m + k ≤ xs.length) (c2 : Nat) (hc : k ≤ c2) (hc2 : c2 ≤ maxLen) : RdF w (.slice (some ⟨b, off + m, none⟩) k c2) ((xs.drop m).take k) := by
  have hl : ((xs.drop m).take k).length = k := by rw [List.length_take, List.length_drop]; omega
  refine .inr ⟨⟨b, off + m, none⟩, c2, by rw [List.length_map, hl], by rw [List.length_map, hl]; exact hc, hc2, fun i u hi => ?_⟩
  simp only [List.getElem?_map, Option.map_eq_some_iff] at hi
  obtain ⟨q, hq, rfl⟩ := hi
  have hlt : i < k := by have := (List.getElem?_eq_some_iff.1 hq).1; omega
  rw [List.getElem?_take_of_lt hlt, List.getElem?_drop] at hq
  obtain ⟨b', off', e, _, hcell⟩ := h.at (i := m + i) (by omega)
  simp only [Option.some.injEq, Addr.mk.injEq, and_true] at e
  obtain ⟨rfl, rfl⟩ := e
  have e2 : xs.getD (m + i) 0 = q := by rw [List.getD_eq_getElem?_getD, hq]; rfl
  rw [e2] at hcell
  have : (⟨b, off + m, none⟩ : Addr).add i = ⟨b, off + (m + i), none⟩ := by
    unfold Addr.add
    by_cases hz : i = 0
    · simp [hz]
    · simp [hz, Nat.add_assoc]
  rw [this]
  exact hcell
set_option maxHeartbeats 2000000 in
theorem row_any (v : Value) (r : RowsD) (i : Nat) (w : World) (h : RdR w v r) (hv : ValR r) (hi : i < r.bnds.length) :
    Calls Tryz.prog 75 #[v, .int .i64 i] w fun e w' => ∃ u, e = .returned u ∧ RdF w' u (rowO r i) ∧ Below w.heap.size w w' := by
  obtain ⟨a1, c1, a2, c2, a3, c3, rfl⟩ := h.shape
  obtain ⟨p1, p2, p3⟩ := h.parts
  have hlen := rowO_len hv hi
  have hb8 := hv.b8
  have hv8 := hv.v8
  have hv1 := hv.v1
  have hgl := hv.gl
  have hnl := hv.nl
  have l1 := p1.len
  obtain ⟨n0, x1, x2, x3⟩ := r
  simp only at p1 p2 p3 hlen hb8 hv8 hv1 hgl hnl hi l1 ⊢
  unfold maxLen at l1
  obtain rfl := hgl
  obtain ⟨V, hV⟩ : ∃ V, V = x3.length := ⟨_, rfl⟩
  have hnl2 : x1.length = V * x2.length := by rw [hV]; exact_mod_cast hnl
  obtain ⟨m, hm⟩ : ∃ m, m = i * V := ⟨_, rfl⟩
  have hmm : m + V ≤ x1.length := by
    rw [hm, hnl2, Nat.mul_comm V, ← Nat.succ_mul]
    exact Nat.mul_le_mul_right _ hi
  have hx64 : x1.length ≤ 64 := by rw [hnl2]; exact Nat.le_trans (Nat.mul_le_mul (by omega) hb8) (by decide : 8 * 8 ≤ 64)
  have e1 : (i : Int) * (V : Int) = (m : Int) := by rw [hm]; push_cast; rfl
  have e2 : ((i : Int) + 1) * (V : Int) = (m : Int) + (V : Int) := by rw [Int.add_mul, e1, Int.one_mul]
  have P1 := Lib.hid p1
  have hnz : 0 < x1.length := by omega
  obtain ⟨b, off, rfl, hb0, _⟩ := p1.at hnz
  have hc1 : x1.length ≤ c1 ∧ c1 ≤ maxLen := by
    rcases p1 with ⟨e, _⟩ | ⟨ad, cap', e, q1, q2, _⟩
    · cases e
    · simp only [Value.slice.injEq] at e
      obtain ⟨_, _, rfl⟩ := e
      simpa using And.intro q1 q2
  obtain ⟨hc1a, hc1b⟩ := hc1
  have HC := Lib.hid hc1b
  unfold maxLen at hc1b
  have HV := Lib.hid hV
  have HM := Lib.hid hm
  rw [← hV] at hv8 hv1 ⊢
  have hi8 : i < 8 := by omega
  clear h p1 p2 p3 hlen hnl hnl2 hm hV
  go_enter Tryz.func75, Tryz.ntmps75
  go_wp2_with fail
  go_ret
  refine ⟨_, rfl, ?_, by (repeat' first | exact Below.refl _ _ | assumption | refine Below.alloc ?_ ?_ _ | refine Below.setCell ?_ ?_ _ | refine Below.drew ?_ | (simp; done) | (simp; omega))⟩
  simp
  have hb : Below w.heap.size w (w.alloc (.cells #[.int .i64 V, .slice (some ⟨b, off, none⟩) x1.length c1, .slice a2 x2.length c2, .slice a3 V c3] 26)) := (Below.refl _ _).alloc (Nat.le_refl _) _
  have hp := rdF_piece (P1.out.up hb (Nat.le_refl _)) m V hmm (c1 - m) (by omega) (by have := HC.out; omega)
  unfold rowO
  simp only
  rw [← HV.out, ← HM.out]
  exact hp
def NumPost (q : Bool) (s : Nat) (B : Nat) (w : World) (e : Ending) (w' : World) : Prop := e = .returned (.tuple #[.float .f32 s, .bool q]) ∧ Below B w w'
set_option maxHeartbeats 2000000 in
theorem implGain_any (v : Value) (r : RowsD) (u : Value) (x : List Nat) (w : World) (h : RdR w v r) (hu : RdF w u x) :
    Calls Tryz.prog 231 #[v, u] w (NumPost (gainOk r x) (gainV r x) w.heap.size w) := by
  obtain ⟨a1, c1, a2, c2, a3, c3, rfl⟩ := h.shape
  obtain ⟨a, c, rfl⟩ := hu.shape
  obtain ⟨p1, p2, p3⟩ := h.parts
  have HP := Lib.hid h
  have HU := Lib.hid hu
  have H3 := Lib.hid p3
  obtain ⟨n0, x1, x2, x3⟩ := r
  simp only at HP H3 ⊢
  clear h hu p1 p2 p3
  go_enter Tryz.func231, Tryz.ntmps231
  go_wp2_with fail
  refine Calls.at fun W hW => ?_
  have hb := Lib.hid (show Below w.heap.size w W by subst hW; (repeat' first | exact Below.refl _ _ | assumption | refine Below.alloc ?_ ?_ _ | refine Below.setCell ?_ ?_ _ | refine Below.drew ?_ | (simp; done) | (simp; omega)))
  have hk := Lib.hid (show Blk W w.heap.size 26 #[.int .i64 n0, .slice a1 x1.length c1, .slice a2 x2.length c2, .slice a3 x3.length c3] by subst hW; exact Blk.new _ _ _)
  clear hW
  refine (ValidRows_any _ ⟨n0, x1, x2, x3⟩ W (HP.out.up hb.out (Nat.le_refl _))).mono ?_
  rintro e w1 ⟨rfl, hb1⟩
  have HB1 := Lib.hid (hb.out.trans (hb1.mono hb.out.size))
  have HK1 := Lib.hid (hk.out.below hb1 hk.out.lt)
  clear hb1 hb hk
  by_cases hv : validR ⟨n0, x1, x2, x3⟩ = true
  case neg =>
    rw [Bool.not_eq_true] at hv
    have HNO := Lib.hid (show gainOk ⟨n0, x1, x2, x3⟩ x = false by unfold gainOk fitX; rw [hv]; rfl)
    have HNV := Lib.hid (show gainV ⟨n0, x1, x2, x3⟩ x = 0 by unfold gainV; rw [HNO.out]; rfl)
    rw [hv]
    clear hv
    go_wp2_with fail
    go_ret2
    exact ⟨by rw [HNO.out, HNV.out]; rfl, HB1.out⟩
  have HV := Lib.hid (validR_iff.1 hv)
  have HVB := Lib.hid hv
  rw [hv]
  clear hv
  have d0 : w1.cell? ⟨w.heap.size, 0, none⟩ = some (.int .i64 n0) := HK1.out.cell 0 rfl
  have d1 : w1.cell? ⟨w.heap.size, 1, none⟩ = some (.slice a1 x1.length c1) := HK1.out.cell 1 rfl
  have d2 : w1.cell? ⟨w.heap.size, 2, none⟩ = some (.slice a2 x2.length c2) := HK1.out.cell 2 rfl
  have d3 : w1.cell? ⟨w.heap.size, 3, none⟩ = some (.slice a3 x3.length c3) := HK1.out.cell 3 rfl
  go_wp2_with fail
  refine (isX_any _ ⟨n0, x1, x2, x3⟩ _ x w1 (HP.out.up HB1.out (Nat.le_refl _)) (HU.out.up HB1.out (Nat.le_refl _))).mono ?_
  rintro e w2 ⟨rfl, hb2⟩
  simp only
  have HB2 := Lib.hid (HB1.out.trans (hb2.mono HB1.out.size))
  have HK2 := Lib.hid (HK1.out.below hb2 HK1.out.lt)
  clear hb2 d0 d1 d2 d3
  by_cases hx : (((x.length : Int) == n0) && allFin x) = true
  case neg =>
    rw [Bool.not_eq_true] at hx
    have HNO := Lib.hid (show gainOk ⟨n0, x1, x2, x3⟩ x = false by unfold gainOk fitX; simp only [hx, Bool.and_false, Bool.false_and])
    have HNV := Lib.hid (show gainV ⟨n0, x1, x2, x3⟩ x = 0 by unfold gainV; rw [HNO.out]; rfl)
    rw [hx]
    clear hx
    go_wp2_with fail
    go_ret2
    exact ⟨by rw [HNO.out, HNV.out]; rfl, HB2.out⟩
  have HFX := Lib.hid (show fitX ⟨n0, x1, x2, x3⟩ x = true by unfold fitX; rw [HVB.out]; exact hx)
  rw [hx]
  simp only [Bool.and_eq_true, beq_iff_eq] at hx
  have HX := Lib.hid hx
  have HXL := Lib.hid (show x3.length = x.length by have h1 := HV.out.gl; have h2 := hx.1; simp only at h1; omega)
  clear hx
  have d3 : w2.cell? ⟨w.heap.size, 3, none⟩ = some (.slice a3 x3.length c3) := HK2.out.cell 3 rfl
  go_wp2_with fail
  refine (dot_any _ _ x3 x w2 (H3.out.up HB2.out (Nat.le_refl _)) (HU.out.up HB2.out (Nat.le_refl _)) (by have := HXL.out; omega) HV.out.fg HX.out.2).mono ?_
  rintro e w3 ⟨s, rfl, hs, m3, rfl⟩
  have HS := Lib.hid (show Mt (gainO ⟨n0, x1, x2, x3⟩ x) s from hs)
  clear hs d3
  go_wp2_with fail
  refine (IsFinite_any s _).mono ?_
  rintro e w4 ⟨rfl, m4, rfl⟩
  have HG := Lib.hid (show gainOk ⟨n0, x1, x2, x3⟩ x = fin32 s by unfold gainOk; rw [HFX.out, Bool.true_and, HS.out.fin])
  obtain ⟨q, hq⟩ : ∃ q, q = fin32 s := ⟨_, rfl⟩
  rw [← hq]
  have HQ := Lib.hid hq
  clear hq
  cases q
  · have HNV := Lib.hid (show gainV ⟨n0, x1, x2, x3⟩ x = 0 by unfold gainV; rw [HG.out, ← HQ.out]; rfl)
    go_wp2_with fail
    go_ret2
    exact ⟨by rw [HG.out, HNV.out, ← HQ.out]; rfl, below_drewN HB2.out _⟩
  · have HNV := Lib.hid (show gainV ⟨n0, x1, x2, x3⟩ x = s by
      unfold gainV; rw [HG.out, ← HQ.out, if_pos rfl]
      have h1 := HS.out.fin
      cases hg : gainO ⟨n0, x1, x2, x3⟩ x with
      | none => rw [hg, ← HQ.out] at h1; cases h1
      | some g => have := HS.out; rw [hg] at this; rw [this.of_some]; rfl)
    go_wp2_with fail
    go_ret2
    exact ⟨by rw [HG.out, HNV.out, ← HQ.out]; rfl, below_drewN HB2.out _⟩
end Go.Proofs.YtgkbbpajkbkgnaaGreatDoor

namespace Go.Proofs.YtgkbbpajkbkgnaaGreatDoor
open Go.RowKit
end Go.Proofs.YtgkbbpajkbkgnaaGreatDoor

namespace Go.Proofs.YtgkbbpajkbkgnaaGreatDoor
open Go.RowKit
def subV (x y : Nat) (w : World) : Nat := match Ieee.single.sub x y with
  | some r => r
  | none => tape32 (.nanBits .f32 x y) w
def subD (x y : Nat) : Nat := match Ieee.single.sub x y with
  | some _ => 0
  | none => 1
theorem run_sub_all {P : Program} (t : TypeId) (x y : Nat) (w : World) : (binOp .sub t (.float .f32 x) (.float .f32 y)).run P w = .ok (.float .f32 (subV x y w)) (w.drewN (subD x y)) := by
  unfold subV subD
  cases h : Ieee.single.sub x y with
  | some r => exact run_sub_some t x y r h w
  | none => exact run_sub_none t x y h w
theorem slcF_oneB (w : World) (z b : Nat) (hb : b = w.heap.size) : Slc (w.alloc (.cells #[.float .f32 z] 100)) (.slice (some ⟨b, 0, none⟩) 1 1) ([z].map F32) := by subst hb; exact slcF_one w z
end Go.Proofs.YtgkbbpajkbkgnaaGreatDoor

namespace Go.Proofs.YtgkbbpajkbkgnaaGreatDoor
open Go.RowKit
def gtF (a b : Nat) : Bool := Ieee.single.order a b == some .gt
def divV (x m : Nat) : Nat := (Ieee.single.div x m).getD 0
theorem datum_swap (a b : Ieee.Datum) : a.order b = (b.order a).map Ordering.swap := by
  cases a <;> cases b <;> simp only [Ieee.Datum.order, Option.map_none, Option.map_some]
  · rename_i s m i t n j
    rw [Int.min_comm, ← Std.OrientedCmp.eq_swap]
  · rename_i s _ _ t; cases t <;> rfl
  · rename_i s t _ _; cases s <;> rfl
  · rw [← Std.OrientedCmp.eq_swap]
theorem order_swap (a b : Nat) : Ieee.single.order a b = (Ieee.single.order b a).map Ordering.swap := datum_swap _ _
theorem order_fin {a b : Nat} (ha : fin32 a = true) (hb : fin32 b = true) : ∃ o, Ieee.single.order a b = some o := by
  obtain ⟨s, m, e, h, _⟩ := read32_parts ha
  obtain ⟨s', m', e', h', _⟩ := read32_parts hb
  unfold Ieee.Format.order
  rw [h, h']
  exact ⟨_, rfl⟩
theorem gt_lt {a b : Nat} (h : gtF a b = true) : FloatKind.f32.format.order b a = some .lt := by
  show Ieee.single.order b a = _
  unfold gtF at h
  simp only [beq_iff_eq] at h
  rw [order_swap, h]; rfl
theorem not_gt {a b : Nat} (ha : fin32 a = true) (hb : fin32 b = true) (h : gtF a b = false) : FloatKind.f32.format.order b a = some .gt ∨ FloatKind.f32.format.order b a = some .eq := by
  show Ieee.single.order b a = _ ∨ Ieee.single.order b a = _
  obtain ⟨o, ho⟩ := order_fin hb ha
  rw [ho]
  cases o
  · rw [order_swap] at ho
    unfold gtF at h
    cases hx : Ieee.single.order a b with
    | none => rw [hx] at ho; simp at ho
    | some q => rw [hx] at ho h; cases q <;> simp_all
  · exact .inr rfl
  · exact .inl rfl
theorem not_gt_b {a b : Nat} (h : gtF a b = false) : (FloatKind.f32.format.order a b == some .gt) = false := h
theorem yes_gt_b {a b : Nat} (h : gtF a b = true) : (FloatKind.f32.format.order a b == some .gt) = true := h
theorem fin0 : fin32 0 = true := by decide +kernel
theorem div_some {x m : Nat} (hx : fin32 x = true) (hm : fin32 m = true) (hp : gtF m 0 = true) : Ieee.single.div x m = some (divV x m) := by
  obtain ⟨s, a, e, h, _⟩ := read32_parts hx
  obtain ⟨s', a', e', h', _⟩ := read32_parts hm
  have hn : a' ≠ 0 := by
    intro e0
    subst e0
    unfold gtF Ieee.Format.order at hp
    rw [h', show Ieee.single.read 0 = .number false 0 (-149) by decide +kernel] at hp
    simp [Ieee.Datum.order, Ieee.signed] at hp
  unfold divV Ieee.Format.div
  rw [h, h']
  simp only [Ieee.Datum.quotient, if_neg hn, Option.map_some, Option.getD_some]
theorem run_div_some {P : Program} (t : TypeId) {x y : Nat} (h : Ieee.single.div x y = some (divV x y)) (w : World) :
    (binOp .quo t (.float .f32 x) (.float .f32 y)).run P w = .ok (.float .f32 (divV x y)) w := run_float_arith w .quo t .f32 x y _ h
def valI (x : Nat) : Int := match Ieee.single.read x with
  | .number s m e => Ieee.signed s m (e + 149).toNat
  | _ => 0
theorem valI_of {x m : Nat} {s : Bool} {e : Int} (h : Ieee.single.read x = .number s m e) : valI x = Ieee.signed s m (e + 149).toNat := by unfold valI; rw [h]
theorem signed_eq (s : Bool) (m k : Nat) : Ieee.signed s m k = (if s = true then -1 else 1) * ((m * 2 ^ k : Nat) : Int) := by
  unfold Ieee.signed
  rw [Nat.shiftLeft_eq]
  cases s <;> simp
theorem signed_shift (s : Bool) (m k d : Nat) : Ieee.signed s m (k + d) = Ieee.signed s m k * ((2 ^ d : Nat) : Int) := by
  rw [signed_eq, signed_eq, Nat.pow_add, ← Nat.mul_assoc, Int.natCast_mul, Int.mul_assoc]
theorem cmp_mul (a b : Int) (d : Nat) (h : 0 < d) : compare (a * (d : Int)) (b * (d : Int)) = compare a b := by
  have hd : (0 : Int) < (d : Int) := by omega
  rcases Int.lt_trichotomy a b with h1 | h1 | h1
  · rw [Int.compare_eq_lt.2 h1, Int.compare_eq_lt.2 (Int.mul_lt_mul_of_pos_right h1 hd)]
  · rw [h1]; simp
  · rw [Int.compare_eq_gt.2 h1, Int.compare_eq_gt.2 (Int.mul_lt_mul_of_pos_right h1 hd)]
theorem order_val {x y : Nat} (hx : fin32 x = true) (hy : fin32 y = true) : Ieee.single.order x y = some (compare (valI x) (valI y)) := by
  obtain ⟨s, m, e, h, _, _, h1, _⟩ := read32_parts hx
  obtain ⟨t, n, j, h', _, _, h2, _⟩ := read32_parts hy
  rw [valI_of h, valI_of h']
  unfold Ieee.Format.order
  rw [h, h']
  simp only [Ieee.Datum.order]
  have e1 : (e + 149).toNat = (e - min e j).toNat + (min e j + 149).toNat := by omega
  have e2 : (j + 149).toNat = (j - min e j).toNat + (min e j + 149).toNat := by omega
  rw [e1, e2, signed_shift, signed_shift, cmp_mul _ _ _ (Nat.two_pow_pos _)]
theorem gtF_val {x y : Nat} (hx : fin32 x = true) (hy : fin32 y = true) : gtF x y = decide (valI y < valI x) := by
  unfold gtF
  rw [order_val hx hy]
  rcases Int.lt_trichotomy (valI x) (valI y) with h1 | h1 | h1
  · rw [Int.compare_eq_lt.2 h1, decide_eq_false (by omega)]; rfl
  · rw [h1, decide_eq_false (by omega)]; simp
  · rw [Int.compare_eq_gt.2 h1, decide_eq_true h1]; rfl
end Go.Proofs.YtgkbbpajkbkgnaaGreatDoor

namespace Go.Proofs.YtgkbbpajkbkgnaaGreatDoor
open Go.RowKit
theorem boundR {v : Value} {r : RowsD} {w : World} (_h : RdR w v r) (hv : ValR r) : r.nums.length ≤ 64 ∧ r.bnds.length ≤ 8 ∧ r.gains.length ≤ 8 := by
  have h1 := hv.nl
  have h2 := mulR hv.v1 hv.v8 hv.b8
  have h3 := hv.gl
  have h4 := hv.v8
  have h5 := hv.b8
  omega
theorem ownRows_fin {w W Wl : World} {n0 : Int} {x1 x2 x3 : List Nat} {yA yB yC : Value} {lA hA lB hB lC hC : Nat} (hb : Below w.heap.size w W) (hbn : Below W.heap.size W Wl) (hsz : w.heap.size + 1 < W.heap.size)
    (oA : OwnF lA hA Wl yA x1) (oB : OwnF lB hB Wl yB x2) (oC : OwnF lC hC Wl yC x3) (gA : W.heap.size ≤ lA ∧ hA ≤ Wl.heap.size) (gB : W.heap.size ≤ lB ∧ hB ≤ Wl.heap.size) (gC : W.heap.size ≤ lC ∧ hC ≤ Wl.heap.size)
    (dAB : hA ≤ lB ∨ hB ≤ lA) (dAC : hA ≤ lC ∨ hC ≤ lA) (dBC : hB ≤ lC ∨ hC ≤ lB) :
    ∀ Wf, Kept (· = w.heap.size + 1) Wl Wf → Wf.heap.size = Wl.heap.size → OwnR w.heap.size Wf.heap.size Wf (.agg #[.int .i64 n0, yA, yB, yC]) ⟨n0, x1, x2, x3⟩ ∧ Below w.heap.size w Wf := by
  intro Wf hk hz
  have z1 := hb.size
  have z2 := hbn.size
  have k1 := (oA.kept hk (by intro b h1 h2 h3; omega)).wide (lo' := w.heap.size) (hi' := Wf.heap.size) (by omega) (by omega)
  have k2 := (oB.kept hk (by intro b h1 h2 h3; omega)).wide (lo' := w.heap.size) (hi' := Wf.heap.size) (by omega) (by omega)
  have k3 := (oC.kept hk (by intro b h1 h2 h3; omega)).wide (lo' := w.heap.size) (hi' := Wf.heap.size) (by omega) (by omega)
  have hbl : Below w.heap.size w Wl := hb.trans (hbn.mono hb.size)
  refine ⟨⟨_, _, _, rfl, k1, k2, k3, ?_, ?_, ?_⟩, hbl.trans (hk.toBelow hbl.size (by intro k h1 h2; omega))⟩
  · intro g q1 q2; have := oA.blk q1; have := oB.blk q2; omega
  · intro g q1 q2; have := oA.blk q1; have := oC.blk q2; omega
  · intro g q1 q2; have := oB.blk q1; have := oC.blk q2; omega
set_option maxHeartbeats 4000000 in
set_option maxRecDepth 4000 in
theorem ownRows_any (v : Value) (r : RowsD) (w : World) (h : RdR w v r) (hb : bulkR r ≤ 1048576) :
    Calls Tryz.prog 74 #[v] w fun e w' => ∃ v', e = .returned v' ∧ OwnR w.heap.size w'.heap.size w' v' r ∧ Below w.heap.size w w' := by
  obtain ⟨a1, c1, a2, c2, a3, c3, rfl⟩ := h.shape
  obtain ⟨p1, p2, p3⟩ := h.parts
  obtain ⟨n0, x1, x2, x3⟩ := r
  simp only [bulkR] at p1 p2 p3 hb ⊢
  have P1 := Lib.hid p1
  have P2 := Lib.hid p2
  have P3 := Lib.hid p3
  have L1 : Hid (x1.length ≤ 17592186044416) := by show x1.length ≤ _; omega
  have L2 : Hid (x2.length ≤ 17592186044416) := by show x2.length ≤ _; omega
  have L3 : Hid (x3.length ≤ 17592186044416) := by show x3.length ≤ _; omega
  clear h p1 p2 p3 hb
  go_enter Tryz.func74, Tryz.ntmps74
  go_wp2_with fail
  refine wp_at fun W hW => ?_
  have HB := Lib.hid (show Below w.heap.size w W by subst hW; (repeat' first | exact Below.refl _ _ | assumption | refine Below.alloc ?_ ?_ _ | refine Below.setCell ?_ ?_ _ | refine Below.drew ?_ | (simp; done) | (simp; omega)))
  have HK := Lib.hid (show Blk W w.heap.size 26 #[.int .i64 n0, .slice a1 x1.length c1, .slice a2 x2.length c2, .slice a3 x3.length c3] by subst hW; exact (Blk.new _ _ _).alloc _)
  have HL := Lib.hid (show Blk W (w.heap.size + 1) 26 #[.int .i64 0, .slice none 0 0, .slice none 0 0, .slice none 0 0] by subst hW; simpa using Blk.new (w.alloc (.cells #[.int .i64 n0, .slice a1 x1.length c1, .slice a2 x2.length c2, .slice a3 x3.length c3] 26)) 26 #[.int .i64 0, .slice none 0 0, .slice none 0 0, .slice none 0 0])
  clear hW
  have hl1 := HL.out.lt
  have Q1 := Lib.hid (P1.out.up HB.out (Nat.le_refl _))
  have Q2 := Lib.hid (P2.out.up HB.out (Nat.le_refl _))
  have Q3 := Lib.hid (P3.out.up HB.out (Nat.le_refl _))
  have HKEEP := Lib.hid (show ∀ X, Below W.heap.size W X → X.cell? ⟨w.heap.size, 0, none⟩ = some (.int .i64 n0) ∧ X.cell? ⟨w.heap.size, 1, none⟩ = some (.slice a1 x1.length c1) ∧ X.cell? ⟨w.heap.size, 2, none⟩ = some (.slice a2 x2.length c2) ∧ X.cell? ⟨w.heap.size, 3, none⟩ = some (.slice a3 x3.length c3) from fun X hb => by
    have k := HK.out.below hb HK.out.lt
    exact ⟨k.cell 0 rfl, k.cell 1 rfl, k.cell 2 rfl, k.cell 3 rfl⟩)
  go_region_held3 (fun X => X.cell? ⟨w.heap.size, 0, none⟩ = some (.int .i64 n0) ∧ X.cell? ⟨w.heap.size, 1, none⟩ = some (.slice a1 x1.length c1) ∧ X.cell? ⟨w.heap.size, 2, none⟩ = some (.slice a2 x2.length c2) ∧ X.cell? ⟨w.heap.size, 3, none⟩ = some (.slice a3 x3.length c3))
    (first | exact HKEEP.out _ hbn | (refine HKEEP.out _ ?_; (repeat' first | exact Below.refl _ _ | assumption | refine Below.alloc ?_ ?_ _ | refine Below.setCell ?_ ?_ _ | refine Below.drew ?_ | (simp; done) | (simp; omega)); done) | go_keep)
    (first
      | (go_at_call_of 131 a1; refine (copyF_any _ x1 _ (Q1.out.up (B := W.heap.size) (by first | exact hbn | (repeat' first | exact Below.refl _ _ | assumption | refine Below.alloc ?_ ?_ _ | refine Below.setCell ?_ ?_ _ | refine Below.drew ?_ | (simp; done) | (simp; omega))) (Nat.le_refl _)) L1.out).mono ?_; rintro e wA ⟨yA, rfl, oA, hA⟩; obtain ⟨bA, eA, rfl⟩ := oA.rd.shape; have zzA := (show Below W.heap.size W _ from (by first | exact hbn | (repeat' first | exact Below.refl _ _ | assumption | refine Below.alloc ?_ ?_ _ | refine Below.setCell ?_ ?_ _ | refine Below.drew ?_ | (simp; done) | (simp; omega)))).trans (hA.mono (show W.heap.size ≤ _ from (by first | exact hbn.size | (simp; done)))); have hbn := zzA; clear zzA; have zA := hA.size; have hl := HL.out.below hbn HL.out.lt; have t0 : wA.cell? ⟨w.heap.size + 1, 0, none⟩ = some (.int .i64 0) := hl.cell 0 rfl; have t1 : wA.cell? ⟨w.heap.size + 1, 1, none⟩ = some (.slice none 0 0) := hl.cell 1 rfl; have t2 : wA.cell? ⟨w.heap.size + 1, 2, none⟩ = some (.slice none 0 0) := hl.cell 2 rfl; have t3 : wA.cell? ⟨w.heap.size + 1, 3, none⟩ = some (.slice none 0 0) := hl.cell 3 rfl; have u0 := hl.free 0; have u1 := hl.free 1; have u2 := hl.free 2; have u3 := hl.free 3; clear hl)
      | (go_at_call_of 131 a2; refine (copyF_any _ x2 _ (Q2.out.up (B := W.heap.size) (by first | exact hbn | (repeat' first | exact Below.refl _ _ | assumption | refine Below.alloc ?_ ?_ _ | refine Below.setCell ?_ ?_ _ | refine Below.drew ?_ | (simp; done) | (simp; omega))) (Nat.le_refl _)) L2.out).mono ?_; rintro e wB ⟨yB, rfl, oB, hB⟩; obtain ⟨bB, eB, rfl⟩ := oB.rd.shape; have zzB := (show Below W.heap.size W _ from (by first | exact hbn | (repeat' first | exact Below.refl _ _ | assumption | refine Below.alloc ?_ ?_ _ | refine Below.setCell ?_ ?_ _ | refine Below.drew ?_ | (simp; done) | (simp; omega)))).trans (hB.mono (show W.heap.size ≤ _ from (by first | exact hbn.size | (simp; done)))); have hbn := zzB; clear zzB; have zB := hB.size; have hl := HL.out.below hbn HL.out.lt; have t0 : wB.cell? ⟨w.heap.size + 1, 0, none⟩ = some (.int .i64 0) := hl.cell 0 rfl; have t1 : wB.cell? ⟨w.heap.size + 1, 1, none⟩ = some (.slice none 0 0) := hl.cell 1 rfl; have t2 : wB.cell? ⟨w.heap.size + 1, 2, none⟩ = some (.slice none 0 0) := hl.cell 2 rfl; have t3 : wB.cell? ⟨w.heap.size + 1, 3, none⟩ = some (.slice none 0 0) := hl.cell 3 rfl; have u0 := hl.free 0; have u1 := hl.free 1; have u2 := hl.free 2; have u3 := hl.free 3; clear hl)
      | (go_at_call_of 131 a3; refine (copyF_any _ x3 _ (Q3.out.up (B := W.heap.size) (by first | exact hbn | (repeat' first | exact Below.refl _ _ | assumption | refine Below.alloc ?_ ?_ _ | refine Below.setCell ?_ ?_ _ | refine Below.drew ?_ | (simp; done) | (simp; omega))) (Nat.le_refl _)) L3.out).mono ?_; rintro e wC ⟨yC, rfl, oC, hC⟩; obtain ⟨bC, eC, rfl⟩ := oC.rd.shape; have zzC := (show Below W.heap.size W _ from (by first | exact hbn | (repeat' first | exact Below.refl _ _ | assumption | refine Below.alloc ?_ ?_ _ | refine Below.setCell ?_ ?_ _ | refine Below.drew ?_ | (simp; done) | (simp; omega)))).trans (hC.mono (show W.heap.size ≤ _ from (by first | exact hbn.size | (simp; done)))); have hbn := zzC; clear zzC; have zC := hC.size; have hl := HL.out.below hbn HL.out.lt; have t0 : wC.cell? ⟨w.heap.size + 1, 0, none⟩ = some (.int .i64 0) := hl.cell 0 rfl; have t1 : wC.cell? ⟨w.heap.size + 1, 1, none⟩ = some (.slice none 0 0) := hl.cell 1 rfl; have t2 : wC.cell? ⟨w.heap.size + 1, 2, none⟩ = some (.slice none 0 0) := hl.cell 2 rfl; have t3 : wC.cell? ⟨w.heap.size + 1, 3, none⟩ = some (.slice none 0 0) := hl.cell 3 rfl; have u0 := hl.free 0; have u1 := hl.free 1; have u2 := hl.free 2; have u3 := hl.free 3; clear hl))
  all_goals
    have zD : W.drew.heap.size = W.heap.size := rfl
    go_wp2_with fail
    refine bodyPost_ret (v := .agg #[.int .i64 n0, .slice bA x1.length eA, .slice bB x2.length eB, .slice bC x3.length eC]) (by simp [results, Tryz.results74, go_sem, *]) rfl ⟨_, rfl, ?_⟩
    refine ownRows_fin HB.out hbn hl1
      (by first | exact oA | exact oA.up hB (Nat.le_refl _) | exact oA.up hC (Nat.le_refl _) | exact (oA.up hB (Nat.le_refl _)).up hC (Nat.le_refl _) | exact (oA.up hC (Nat.le_refl _)).up hB (Nat.le_refl _))
      (by first | exact oB | exact oB.up hA (Nat.le_refl _) | exact oB.up hC (Nat.le_refl _) | exact (oB.up hA (Nat.le_refl _)).up hC (Nat.le_refl _) | exact (oB.up hC (Nat.le_refl _)).up hA (Nat.le_refl _))
      (by first | exact oC | exact oC.up hA (Nat.le_refl _) | exact oC.up hB (Nat.le_refl _) | exact (oC.up hA (Nat.le_refl _)).up hB (Nat.le_refl _) | exact (oC.up hB (Nat.le_refl _)).up hA (Nat.le_refl _))
      (by omega) (by omega) (by omega) (by omega) (by omega) (by omega) _ ?_ (by simp)
    repeat' first | exact Kept.refl _ _ | refine Kept.setCell ?_ (.inr (by simp)) _
def zeroR : RowsD := ⟨0, [], [], []⟩
set_option maxHeartbeats 1000000 in
theorem checked_any (v : Value) (r : RowsD) (w : World) (h : RdR w v r) :
    Calls Tryz.prog 77 #[v] w fun e w' => e = .returned (.tuple #[if validR r = true then v else .agg #[.int .i64 0, .slice none 0 0, .slice none 0 0, .slice none 0 0], .bool (validR r)]) ∧ Below w.heap.size w w' := by
  obtain ⟨a1, c1, a2, c2, a3, c3, rfl⟩ := h.shape
  obtain ⟨n0, x1, x2, x3⟩ := r
  simp only
  have HP := Lib.hid h
  clear h
  obtain ⟨V, hV⟩ : ∃ V : Value, V = if validR ⟨n0, x1, x2, x3⟩ = true then .agg #[.int .i64 n0, .slice a1 x1.length c1, .slice a2 x2.length c2, .slice a3 x3.length c3] else .agg #[.int .i64 0, .slice none 0 0, .slice none 0 0, .slice none 0 0] := ⟨_, rfl⟩
  rw [← hV]
  have HVV := Lib.hid hV
  clear hV
  go_enter Tryz.func77, Tryz.ntmps77
  go_wp2_with fail
  refine Calls.at fun W hW => ?_
  have HB := Lib.hid (show Below w.heap.size w W by subst hW; (repeat' first | exact Below.refl _ _ | assumption | refine Below.alloc ?_ ?_ _ | refine Below.setCell ?_ ?_ _ | refine Below.drew ?_ | (simp; done) | (simp; omega)))
  have HK := Lib.hid (show Blk W w.heap.size 26 #[.int .i64 n0, .slice a1 x1.length c1, .slice a2 x2.length c2, .slice a3 x3.length c3] by subst hW; exact (Blk.new _ _ _).alloc _)
  have HL := Lib.hid (show Blk W (w.heap.size + 1) 26 #[.int .i64 0, .slice none 0 0, .slice none 0 0, .slice none 0 0] by subst hW; simpa using Blk.new (w.alloc (.cells #[.int .i64 n0, .slice a1 x1.length c1, .slice a2 x2.length c2, .slice a3 x3.length c3] 26)) 26 #[.int .i64 0, .slice none 0 0, .slice none 0 0, .slice none 0 0])
  clear hW
  refine (ValidRows_any _ ⟨n0, x1, x2, x3⟩ W (HP.out.up HB.out (Nat.le_refl _))).mono ?_
  rintro e w1 ⟨rfl, hb1⟩
  have HB1 := Lib.hid (HB.out.trans (hb1.mono HB.out.size))
  have HK1 := Lib.hid (HK.out.below hb1 HK.out.lt)
  have HL1 := Lib.hid (HL.out.below hb1 HL.out.lt)
  clear hb1
  have d0 : w1.cell? ⟨w.heap.size, 0, none⟩ = some (.int .i64 n0) := HK1.out.cell 0 rfl
  have d1 : w1.cell? ⟨w.heap.size, 1, none⟩ = some (.slice a1 x1.length c1) := HK1.out.cell 1 rfl
  have d2 : w1.cell? ⟨w.heap.size, 2, none⟩ = some (.slice a2 x2.length c2) := HK1.out.cell 2 rfl
  have d3 : w1.cell? ⟨w.heap.size, 3, none⟩ = some (.slice a3 x3.length c3) := HK1.out.cell 3 rfl
  have e0 : w1.cell? ⟨w.heap.size + 1, 0, none⟩ = some (.int .i64 0) := HL1.out.cell 0 rfl
  have e1 : w1.cell? ⟨w.heap.size + 1, 1, none⟩ = some (.slice none 0 0) := HL1.out.cell 1 rfl
  have e2 : w1.cell? ⟨w.heap.size + 1, 2, none⟩ = some (.slice none 0 0) := HL1.out.cell 2 rfl
  have e3 : w1.cell? ⟨w.heap.size + 1, 3, none⟩ = some (.slice none 0 0) := HL1.out.cell 3 rfl
  have f0 := HL1.out.free 0
  have f1 := HL1.out.free 1
  have f2 := HL1.out.free 2
  have f3 := HL1.out.free 3
  have fin : ∀ Wf, Kept (· = w.heap.size + 1) w1 Wf → Below w.heap.size w Wf := fun Wf hk => HB1.out.trans (hk.toBelow HB1.out.size (by intro k h1 h2; omega))
  have FIN := Lib.hid fin
  clear fin
  by_cases hv : validR ⟨n0, x1, x2, x3⟩ = true
  · have HV := Lib.hid hv
    rw [hv]
    clear hv
    go_wp2_with fail
    refine bodyPost_ret (v := .tuple #[.agg #[.int .i64 n0, .slice a1 x1.length c1, .slice a2 x2.length c2, .slice a3 x3.length c3], .bool true]) (by simp [results, Tryz.results77, go_sem, *]) rfl ⟨by rw [HVV.out, HV.out]; rfl, FIN.out _ ?_⟩
    repeat' first | exact Kept.refl _ _ | refine Kept.setCell ?_ (.inr (by simp)) _
  · rw [Bool.not_eq_true] at hv
    have HV := Lib.hid hv
    rw [hv]
    clear hv
    go_wp2_with fail
    refine bodyPost_ret (v := .tuple #[.agg #[.int .i64 0, .slice none 0 0, .slice none 0 0, .slice none 0 0], .bool false]) (by simp [results, Tryz.results77, go_sem, *]) rfl ⟨by rw [HVV.out, HV.out]; rfl, FIN.out _ ?_⟩
    repeat' first | exact Kept.refl _ _ | refine Kept.setCell ?_ (.inr (by simp)) _
end Go.Proofs.YtgkbbpajkbkgnaaGreatDoor

namespace Go.Proofs.YtgkbbpajkbkgnaaGreatDoor
open Go.RowKit
theorem Blk.newB (w : World) (t : TypeId) (cs : Array Value) (b : Nat) (hb : b = w.heap.size) : Blk (w.alloc (.cells cs t)) b t cs := by subst hb; exact Blk.new w t cs
theorem blk_grown {w w' : World} {b : Nat} {t : TypeId} {cs : Array Value} {row : Option Nat} (h : Blk w b t cs) (hg : w.grownBy w' row) (hne : row ≠ some b) : Blk w' b t cs :=
  (hg.block b h.lt fun e => hne e.symm).trans h
end Go.Proofs.YtgkbbpajkbkgnaaGreatDoor

namespace Go.Proofs.YtgkbbpajkbkgnaaGreatDoor
open Go.RowKit
def zeroCells : Array Value := #[.int .i64 0, .slice none 0 0, .slice none 0 0, .slice none 0 0]
end Go.Proofs.YtgkbbpajkbkgnaaGreatDoor
